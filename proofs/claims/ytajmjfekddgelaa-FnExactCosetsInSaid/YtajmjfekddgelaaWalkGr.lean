/- The walks of the test whether an increasing list of rows is a group. -/
import Derived.Test.YtajmjfekddgelaaPlainG
import Derived.Test.YtajmjfekddgelaaWalkCl
import Derived.Test.YtajmjfekddgelaaWalkG
import Derived.Test.YtajmjfekddgelaaShelfq
import Derived.Laws.Cover1
import Derived.BigQuiet
namespace Go.Proofs.Ytajmjfekddgelaa
open Go.RowKit Go.Maps
set_option linter.unusedVariables false

theorem less_lt (x y : ByteArray) : Op.bytesLess y.toList x.toList = decide (bs y < bs x) := by
  rw [less_le]
  by_cases h : bs y < bs x
  · rw [decide_eq_true h, leS_false.2 h]; rfl
  · rw [decide_eq_false h]
    have : leS (bs x) (bs y) = true := by
      cases e : leS (bs x) (bs y) with
      | true => rfl
      | false => exact absurd (leS_false.1 e) h
    rw [this]; rfl
theorem less_same (x : ByteArray) : Op.bytesLess x.toList x.toList = false := by
  rw [less_lt]; exact decide_eq_false (List.lt_irrefl _)
theorem drewN_add' (w : World) (a b : Nat) : (w.drewN a).drewN b = w.drewN (a + b) := by
  first | rfl | simp
set_option maxRecDepth 100000 in
set_option maxHeartbeats 1000000 in
theorem l6Rising_any (A : Option Addr) (n c : Nat) (ss : List ByteArray) (w : World) (hr : Rd w A n (strsV ss)) (hz : ∀ s ∈ ss, s.size ≤ maxLen) :
    Calls Try.prog 37 #[.slice A n c] w fun e w' => e = .returned (.bool (incB ss && rowsB ss)) ∧ ∃ d, w' = w.drewN d := by
  have HA : Hid (∀ W', Rd W' A n (strsV ss) → Calls Try.prog 26 #[.slice A n c] W' fun e w' => e = .returned (.bool (rowsB ss)) ∧ ∃ d, w' = W'.drewN d) := fun W' h => l6Rows_any A n c ss W' h hz
  have hn := hr.lenB
  have Hr := Lib.hid hr
  have Hl := Lib.hid hr.slen
  clear hr hz
  go_enter Try.func37, Try.ntmps37
  go_wp2
  go_loopw [6] (fun i wr => ∃ k d : Nat, k ≤ n ∧ i = .int .i64 k ∧ Hid (IncTo ss k) ∧ wr = w.drewN d) (fun i _ => n - (intOf i).toNat)
  case atStart => exact ⟨0, 0, by omega, rfl, fun j h1 h2 => by omega, rfl⟩
  case round =>
    obtain ⟨k, d, hk, rfl, HT, rfl⟩ := hrel
    by_cases hlt : k < n
    · by_cases hk0 : k = 0
      · subst hk0
        have hd : decide ((0 : Int) < 0) = false := rfl
        have i1 : (0 : Int) < (n : Int) := by omega
        go_wp2
        go_quiet (fail)
        go_wp2
        go_roundw
        case rel => exact ⟨1, _, by omega, by go_num, fun j h1 h2 => by omega, rfl⟩
        case measure => simp [intOf]; omega
      · obtain ⟨b, off, rfl, _, hcs⟩ := Hr.out.strD hlt
        have hc1 := hcs k hlt
        have hc2 : w.cell? ⟨b, off + (k - 1), none⟩ = some (.string (getS ss (k - 1))) := hcs (k - 1) (by omega)
        have hbl := less_le (getS ss k) (getS ss (k - 1))
        have HN : Hid (leS (bs (getS ss k)) (bs (getS ss (k - 1))) = false → IncTo ss (k + 1)) := fun h => HT.out.succ h
        have HE : Hid (leS (bs (getS ss k)) (bs (getS ss (k - 1))) = true → incB ss = false) := fun h => inc_no (by omega) (by have := Hl.out; omega) h
        obtain ⟨x, hx⟩ : ∃ x, x = getS ss k := ⟨_, rfl⟩
        obtain ⟨y, hy⟩ : ∃ y, y = getS ss (k - 1) := ⟨_, rfl⟩
        rw [← hx] at hc1
        rw [← hy] at hc2
        rw [← hx, ← hy] at hbl HN HE
        obtain ⟨q, hq⟩ : ∃ q, q = leS (bs x) (bs y) := ⟨_, rfl⟩
        rw [← hq] at hbl HN HE
        have i1 : (k : Int) < (n : Int) := by omega
        have hd0 : decide (0 < k) = true := decide_eq_true (by omega)
        have i2 : (1 : Int) ≤ (k : Int) := by omega
        have i3 : (k : Int) - 1 < (n : Int) := by omega
        have i4 : (0 : Int) ≤ (k : Int) - 1 := by omega
        have et : ((k : Int) - 1).toNat = k - 1 := by omega
        clear hcs hx hy hq
        cases q with
        | true =>
          have E := Lib.hid (HE.out (by trivial))
          have hbl' : Op.bytesLess y.toList x.toList = false := hbl
          clear hbl HN HE
          go_wp2
          go_quiet (fail)
          go_wp2
          go_ret
          exact ⟨ret_b (by rw [E.out]; rfl), d + nq, drewN_add' _ _ _⟩
        | false =>
          have HN' := Lib.hid (HN.out (by trivial))
          have hbl' : Op.bytesLess y.toList x.toList = true := hbl
          clear hbl HN HE
          go_wp2
          go_quiet (fail)
          go_wp2
          go_roundw
          case rel => exact ⟨k + 1, _, by omega, by go_num, HN'.out, rfl⟩
          case measure => simp [intOf]; omega
    · have E : Hid (incB ss = true) := by
        have := Hl.out
        have h2 := HT.out
        rw [show k = ss.length by omega] at h2
        exact decide_eq_true h2
      go_wp2_with (go_at_call 26; refine (HA.out _ (Hr.out.drewN _)).mono ?_; rintro e w' ⟨rfl, d2, rfl⟩)
      go_ret
      exact ⟨ret_b (by rw [E.out]; rfl), _, rfl⟩
set_option maxRecDepth 100000 in
set_option maxHeartbeats 1000000 in
theorem increasing_any (A : Option Addr) (n c : Nat) (ss : List ByteArray) (w : World) (hr : Rd w A n (strsV ss)) :
    Calls Try.prog 48 #[.slice A n c] w fun e w' => e = .returned (.bool (incB ss)) ∧ ∃ d, w' = w.drewN d := by
  have hn := hr.lenB
  have Hr := Lib.hid hr
  have Hl := Lib.hid hr.slen
  clear hr
  go_enter Try.func48, Try.ntmps48
  go_wp2
  go_loopw [3] (fun i wr => ∃ k d : Nat, 1 ≤ k ∧ k ≤ n + 1 ∧ i = .int .i64 k ∧ Hid (IncTo ss k) ∧ wr = w.drewN d) (fun i _ => n + 1 - (intOf i).toNat)
  case atStart => exact ⟨1, 0, by omega, by omega, rfl, fun j h1 h2 => by omega, rfl⟩
  case round =>
    obtain ⟨k, d, hk0, hk, rfl, HT, rfl⟩ := hrel
    by_cases hlt : k < n
    · obtain ⟨b, off, rfl, _, hcs⟩ := Hr.out.strD hlt
      have hc1 := hcs k hlt
      have hc2 : w.cell? ⟨b, off + (k - 1), none⟩ = some (.string (getS ss (k - 1))) := hcs (k - 1) (by omega)
      have hbl := less_lt (getS ss (k - 1)) (getS ss k)
      have HN : Hid (leS (bs (getS ss k)) (bs (getS ss (k - 1))) = false → IncTo ss (k + 1)) := fun h => HT.out.succ h
      have HE : Hid (leS (bs (getS ss k)) (bs (getS ss (k - 1))) = true → incB ss = false) := fun h => inc_no (by omega) (by have := Hl.out; omega) h
      obtain ⟨x, hx⟩ : ∃ x, x = getS ss k := ⟨_, rfl⟩
      obtain ⟨y, hy⟩ : ∃ y, y = getS ss (k - 1) := ⟨_, rfl⟩
      rw [← hx] at hc1
      rw [← hy] at hc2
      rw [← hx, ← hy] at hbl HN HE
      have i1 : (k : Int) < (n : Int) := by omega
      have i2 : (1 : Int) ≤ (k : Int) := by omega
      have i3 : (k : Int) - 1 < (n : Int) := by omega
      have i4 : (0 : Int) ≤ (k : Int) - 1 := by omega
      have et : ((k : Int) - 1).toNat = k - 1 := by omega
      clear hcs hx hy
      by_cases hxy : bs x < bs y
      · have E := Lib.hid (HE.out (by simp only [leS, decide_eq_true_eq]; exact List.le_of_lt hxy))
        have hbl' : Op.bytesLess x.toList y.toList = true := by rw [hbl]; exact decide_eq_true hxy
        clear hbl HN HE hxy
        go_wp2
        go_quiet (fail)
        go_wp2
        go_ret
        exact ⟨ret_b E.out, d + nq, drewN_add' _ _ _⟩
      · have hbl' : Op.bytesLess x.toList y.toList = false := by rw [hbl]; exact decide_eq_false hxy
        clear hbl
        by_cases he : x = y
        · have E := Lib.hid (HE.out (by simp only [leS, decide_eq_true_eq]; rw [he]; exact List.le_refl _))
          subst he
          clear HN HE hxy
          go_wp2
          go_quiet (fail)
          go_wp2
          go_ret
          exact ⟨ret_b E.out, d + nq, drewN_add' _ _ _⟩
        · have HN' := Lib.hid (HN.out (leS_false.2 (by
            have h1 : bs y ≤ bs x := List.not_lt.1 hxy
            rcases List.le_iff_lt_or_eq.1 h1 with h2 | h2
            · exact h2
            · exact absurd (bs_inj h2).symm he)))
          have hne := ne_list he
          clear HN HE hxy he
          go_wp2
          go_quiet (fail)
          go_wp2
          go_roundw
          case rel => exact ⟨k + 1, _, by omega, by omega, by go_num, HN'.out, rfl⟩
          case measure => simp [intOf]; omega
    · have E : Hid (incB ss = true) := by
        have := Hl.out
        exact decide_eq_true (fun j h1 h2 => HT.out j h1 (by omega))
      go_wp2
      go_ret
      exact ⟨ret_b E.out, _, rfl⟩
/-- the first place from which on nothing is less -/
theorem first_at {ss : List ByteArray} (hs : Strict ss) (x : ByteArray) {n : Nat} (hn : ss.length = n) (Sx : Nat → ByteArray) (hS : Sx = fun t => if t < n then getS ss t else x) :
    decide (Lib.bsGo (fun t => Op.bytesLess (Sx t).toList x.toList) n 0 n < n ∧ Sx (Lib.bsGo (fun t => Op.bytesLess (Sx t).toList x.toList) n 0 n) = x) = hasB ss x := by
  have hSn : ∀ t, n ≤ t → Sx t = x := fun t h => by rw [hS]; simp [show ¬ t < n by omega]
  have hSl : ∀ t, t < n → Sx t = getS ss t := fun t h => by rw [hS]; simp [h]
  obtain ⟨k, hk, hk1, hk2⟩ := exists_least (P := fun t => Op.bytesLess (Sx t).toList x.toList = false) n (by rw [hSn n (Nat.le_refl _)]; exact less_same x)
  have h1 : ∀ t, t < k → Op.bytesLess (Sx t).toList x.toList = true := fun t ht => by
    have := hk2 t ht
    cases e : Op.bytesLess (Sx t).toList x.toList with
    | true => rfl
    | false => exact absurd e this
  have h2 : ∀ t, k ≤ t → Op.bytesLess (Sx t).toList x.toList = false := fun t ht => by
    rcases Nat.lt_or_ge t n with htn | htn
    · by_cases e : t = k
      · rw [e]; exact hk1
      · have h3 := hk1
        rw [hSl k (by omega), less_lt] at h3
        rw [hSl t htn, less_lt]
        have h4 := of_decide_eq_false h3
        refine decide_eq_false fun h5 => h4 ?_
        exact List.lt_trans (strict_get hs (show k < t by omega) (by omega)) h5
    · rw [hSn t htn]; exact less_same x
  rw [Lib.bsGo_spec _ k h1 h2 n 0 n (by omega) (by omega) hk]
  rw [Bool.eq_iff_iff, decide_eq_true_iff, hasB_mem]
  constructor
  · rintro ⟨h3, h4⟩
    rw [hSl k h3] at h4
    rw [← h4]; exact getS_mem (by omega)
  · intro h
    obtain ⟨j, hj, e⟩ := List.mem_iff_getElem.1 h
    have e2 : getS ss j = x := by simp [getS, List.getElem?_eq_getElem hj, e]
    have hjk : k ≤ j := by
      refine Nat.le_of_not_lt fun h5 => ?_
      have h6 := h1 j h5
      rw [hSl j (by omega), e2, less_same] at h6
      cases h6
    have hkj : j ≤ k := by
      refine Nat.le_of_not_lt fun h5 => ?_
      have h6 := hk1
      rw [hSl k (by omega), less_lt] at h6
      have h7 := strict_get hs h5 hj
      rw [e2] at h7
      exact of_decide_eq_false h6 h7
    have : k = j := by omega
    subst this
    exact ⟨by omega, by rw [hSl k (by omega)]; exact e2⟩
theorem search_any (A : Option Addr) (n c : Nat) (ss : List ByteArray) (x : ByteArray) (w : World) (h8 : n ≤ 1048576) (hr : Rd w A n (strsV ss)) (hs : Strict ss) :
    Calls Try.prog 82 #[.slice A n c, .string x] w fun e w' => ∃ z : Int, e = .returned (.tuple #[.int .i64 z, .bool (hasB ss x)]) ∧ ∃ d, w' = w.drewN d := by
  by_cases h0 : n = 0
  · subst h0
    refine (Try.slices_BinarySearch_string_empty A c x w).mono ?_
    rintro e w' ⟨rfl, rfl⟩
    have : ss = [] := List.eq_nil_of_length_eq_zero hr.slen
    subst this
    exact ⟨0, rfl, 0, rfl⟩
  · obtain ⟨b, off, rfl, _, hcs⟩ := hr.strD (k := 0) (by omega)
    obtain ⟨Sx, hS⟩ : ∃ S : Nat → ByteArray, S = fun t => if t < n then getS ss t else x := ⟨_, rfl⟩
    have hF := first_at hs x hr.slen Sx hS
    refine (Try.slices_BinarySearch_string b off n c Sx x w (by omega) (fun j hj => by rw [hcs j hj, hS]; simp [hj])).mono ?_
    rintro e w' ⟨rfl, q, rfl⟩
    exact ⟨_, by rw [hF], q, rfl⟩
set_option maxRecDepth 100000 in
set_option maxHeartbeats 1000000 in
theorem has_any (A : Option Addr) (n c : Nat) (ss : List ByteArray) (x : ByteArray) (w : World) (h8 : n ≤ 1048576) (hr : Rd w A n (strsV ss)) (hs : Strict ss) :
    Calls Try.prog 65 #[.slice A n c, .string x] w fun e w' => e = .returned (.bool (hasB ss x)) ∧ ∃ d, w' = w.drewN d := by
  have HS := Lib.hid (search_any A n c ss x w h8 hr hs)
  clear hr hs
  go_enter Try.func65, Try.ntmps65
  go_wp2_with (go_at_call 82; refine HS.out.mono ?_; rintro e w1 ⟨z, rfl, d, rfl⟩)
  go_ret
  exact ⟨rfl, d, rfl⟩
theorem equal_any (A B : Option Addr) (n c m d : Nat) (ss tt : List ByteArray) (w : World) (h1 : 0 < n) (h2 : 0 < m) (h8 : n ≤ 1048576) (h9 : m ≤ 1048576) (hr : Rd w A n (strsV ss)) (hq : Rd w B m (strsV tt)) :
    Calls Try.prog 66 #[.slice A n c, .slice B m d] w fun e w' => ∃ b, e = .returned (.bool b) ∧ (b = true ↔ ss = tt) ∧ ∃ d, w' = w.drewN d := by
  obtain ⟨b1, o1, rfl, _, hc1⟩ := hr.strD (k := 0) h1
  obtain ⟨b2, o2, rfl, _, hc2⟩ := hq.strD (k := 0) h2
  have l1 := hr.slen
  have l2 := hq.slen
  refine (Try.slices_Equal_string b1 o1 n c b2 o2 m d ss tt w (by omega) (by omega) (by omega) (by omega) (fun j hj => hc1 j (by omega)) (fun j hj => hc2 j (by omega))).mono ?_
  rintro e w' ⟨rfl, q, rfl⟩
  refine ⟨_, rfl, ?_, q, rfl⟩
  rw [decide_eq_true_iff, List.take_of_length_le (by omega), List.take_of_length_le (by omega)]
set_option maxRecDepth 100000 in
set_option maxHeartbeats 2000000 in
theorem isGroup_any (A : Option Addr) (n c : Nat) (ss : List ByteArray) (W : World) (hr : Rd W A n (strsV ss)) (hok : rowsB ss = true) :
    Calls Try.prog 43 #[.slice A n c] W fun e w' => e = .returned (.bool (incB ss && grpB ss)) ∧ Below W.heap.size W w' := by
  have HIn : Hid (∀ W', Rd W' A n (strsV ss) → Calls Try.prog 48 #[.slice A n c] W' fun e w' => e = .returned (.bool (incB ss)) ∧ ∃ d, w' = W'.drewN d) := fun W' h => increasing_any A n c ss W' h
  have hl := hr.slen
  by_cases hn0 : n = 0
  · have E : Hid (grpB ss = false) := grpB_false.2 fun h => by have := h.1; omega
    have hne : ((n : Int) == 0) = true := by simp [hn0]
    have Hr := Lib.hid hr
    clear hr hok hl hn0
    go_enter Try.func43, Try.ntmps43
    go_wp2
    go_quiet (fail)
    go_wp2
    go_ret
    exact ⟨ret_b (by rw [E.out]; simp), below_drewN' (Below.refl _ _) _⟩
  · have h2 : RowsOK ss := by simpa [rowsB] using hok
    have hn8 : n ≤ 800 := by have := h2.1; omega
    have h00 : 0 < ss.length := by omega
    have h3 := h2.2 (headS ss) (by rw [headS_get h00]; exact List.getElem_mem h00)
    have hh3 := h3.1.1
    have hh8 := h3.1.2.1
    rw [size_bs] at hh3 hh8
    have hRN : RowsN (headS ss).size ss := h2.2
    have hne : ((n : Int) == 0) = false := by simp; omega
    have i0 : (0 : Int) < (n : Int) := by omega
    have e0 : getS ss 0 = headS ss := by cases ss <;> rfl
    have HRo : Hid (∀ w, Calls Try.prog 34 #[.int .i64 ((headS ss).size : Int)] w fun e w' => e = .returned (.string (mkS (roundsL (headS ss).size))) ∧ w' = w) := fun w => by
      have := rounds_any ((headS ss).size : Int) w (by omega) (by omega)
      rw [Int.toNat_natCast] at this
      exact this.mono fun e w' h => ⟨h.1, h.2.symm⟩
    obtain ⟨b, off, rfl, _, hcs⟩ := hr.strD (k := 0) (by omega)
    have hc0 := hcs 0 (by omega)
    rw [e0, Nat.add_zero] at hc0
    by_cases hinc : incB ss = true
    · by_cases hx : headS ss = mkS (roundsL (headS ss).size)
      · have HSt := Lib.hid (strict_of hinc)
        have HG0 := Lib.hid (GInv.start h00 hx)
        have HDone : Hid (∀ gs G, GInv ss n gs G → (G = ss ↔ grpB ss = true)) := fun gs G h => by rw [← hl] at h; exact h.done rfl hh3 hh8 hRN h00 hx HSt.out
        have HNext : Hid (∀ k gs G, GInv ss k gs G → k < n → genB (headS ss).size (gs ++ [getS ss k]) n = true → GInv ss (k + 1) (gs ++ [getS ss k]) (genL (headS ss).size (gs ++ [getS ss k]) n)) := fun k gs G h hk hg => by rw [← hl] at hg ⊢; exact h.next (by omega) rfl hh3 hh8 hRN hg
        have HFail : Hid (∀ k gs G, GInv ss k gs G → k < n → genB (headS ss).size (gs ++ [getS ss k]) n = false → grpB ss = false) := fun k gs G h hk hg => by rw [← hl] at hg; exact h.fail (by omega) rfl hg
        have HStr : Hid (∀ k gs G, GInv ss k gs G → Strict G ∧ 0 < G.length ∧ G.length ≤ n) := fun k gs G h => by
          refine ⟨by rw [h.eq]; exact genL_strict h.ok, ?_, by rw [h.eq, ← hl]; exact genL_len h.ok⟩
          have h5 := (genL_mem (x := mkS (roundsL (headS ss).size)) h.ok).2 (clTo_e _ _ _)
          rw [← h.eq] at h5
          exact List.length_pos_of_mem h5
        have HGen : Hid (∀ k gs G A3 c3 W' (r : ByteArray), r.size = (headS ss).size → GInv ss k gs G → k < n → Rd W' A3 (gs.length + 1) (strsV (gs ++ [getS ss k])) → Calls Try.prog 50 #[.int .i64 (r.size : Int), .slice A3 ((gs.length + 1 : Nat)) c3, .int .i64 (n : Int)] W' (RetSB 9 (strsV (genL (headS ss).size (gs ++ [getS ss k]) n)) (genB (headS ss).size (gs ++ [getS ss k]) n) W')) := fun k gs G A3 c3 W' r hrs h hk hrd => by
          rw [hrs]
          exact generated_any (headS ss).size n A3 (gs.length + 1) c3 (gs ++ [getS ss k]) W' hh3 hh8 (by have := h.len; omega) (by omega) hn8 hrd fun x hx => hRN x (h.sub2 (by omega) x hx)
        have HEq : Hid (∀ A4 m4 c4 W' G, 0 < m4 → m4 ≤ 800 → Rd W' A4 m4 (strsV G) → Rd W' (some ⟨b, off, none⟩) n (strsV ss) → Calls Try.prog 66 #[.slice A4 m4 c4, .slice (some ⟨b, off, none⟩) n c] W' fun e w' => ∃ b, e = .returned (.bool b) ∧ (b = true ↔ G = ss) ∧ ∃ d, w' = W'.drewN d) := fun A4 m4 c4 W' G h1 h2 h3 h4 => equal_any A4 _ m4 c4 n c G ss W' h1 (by omega) (by omega) (by omega) h3 h4
        have HSz : Hid (∀ k, k < n → (getS ss k).size = (headS ss).size) := fun k hk => (hRN _ (getS_mem (by omega))).2
        have HX0 : Hid (∀ w', Below W.heap.size W w' → w'.cell? ⟨b, off, none⟩ = some (.string (headS ss))) := fun w' hb => by
          obtain ⟨b', off', e, _, hc⟩ := (hr.below hb).strD (k := 0) (by omega)
          injection e with e; injection e with e1 e2; subst e1 e2
          have h5 := hc 0 (by omega)
          rw [e0, Nat.add_zero] at h5
          exact h5
        have Hr := Lib.hid hr
        rw [hinc] at HIn
        have HInc := Lib.hid hinc
        obtain ⟨x, hxx⟩ : ∃ x, x = headS ss := ⟨_, rfl⟩
        rw [← hxx] at hc0 HRo hx HG0 HX0
        rw [← hx] at HRo
        have hxq : (x.toList == x.toList) = true := by simp
        clear hr hok hl h2 h00 h3 hh3 hh8 hRN e0 hcs hinc hx hxx
        go_enter Try.func43, Try.ntmps43
        go_wp2
        go_quiet (first | (go_at_call 48; with_reducible exact Calls.quiet_of (HIn.out _ (Hr.out.drewN _))) | (go_at_call 34; with_reducible exact Calls.quiet_of_same (HRo.out _)))
        have hbA : Below W.heap.size W ((W.drewN nq).alloc (.cells #[] 9)) := (below_drewN' (Below.refl _ _) nq : Below W.heap.size W _).trans (below_alloc (W.drewN nq) _)
        have hcA := HX0.out _ hbA
        have HO0 : Hid (Own (((W.drewN nq).alloc (.cells #[] 9)).alloc (.cells #[.string x] 9)) 9 W.heap.size (((W.drewN nq).alloc (.cells #[] 9)).alloc (.cells #[.string x] 9)).heap.size (some ⟨W.heap.size, 0, none⟩) 0 0 (strsV [])) := by
          have h5 : Own ((W.drewN nq).alloc (.cells #[] 9)) 9 W.heap.size ((W.drewN nq).alloc (.cells #[] 9)).heap.size (some ⟨W.heap.size, 0, none⟩) 0 0 [] := own_empty (W.drewN nq) 9
          exact (h5.below (below_alloc _ _)).mono (Nat.le_refl _) (by simp)
        have HG1 : Hid (Rd (((W.drewN nq).alloc (.cells #[] 9)).alloc (.cells #[.string x] 9)) (some ⟨W.heap.size + 1, 0, none⟩) 1 (strsV [x])) := by
          have h5 := (own_one ((W.drewN nq).alloc (.cells #[] 9)) 9 (.string x)).rd
          have h6 : ((W.drewN nq).alloc (.cells #[] 9)).heap.size = W.heap.size + 1 := by simp
          rw [h6] at h5
          exact h5
        have HB0 : Hid (Below W.heap.size W (((W.drewN nq).alloc (.cells #[] 9)).alloc (.cells #[.string x] 9))) := hbA.trans ((below_alloc _ _).mono hbA.size)
        clear hbA
        go_wp2
        go_loopw [3, 4, 35] (fun gv Gv i wr => ∃ (k L3 : Nat) (A3 : Option Addr) (c3 : Nat) (A4 : Option Addr) (L4 c4 : Nat) (gs G : List ByteArray), i = .int .i64 k ∧ gv = .slice A3 L3 c3 ∧ Gv = .slice A4 L4 c4 ∧ k ≤ n ∧ L3 ≤ k ∧ Hid (Own wr 9 W.heap.size wr.heap.size A3 L3 c3 (strsV gs)) ∧ Hid (Rd wr A4 L4 (strsV G)) ∧ Hid (GInv ss k gs G) ∧ Hid (Below W.heap.size W wr)) (fun _ _ i _ => n - (intOf i).toNat)
        case atStart => exact ⟨0, 0, _, 0, _, 1, 1, [], [x], rfl, rfl, rfl, by omega, by omega, HO0.out, HG1.out, HG0.out, HB0.out⟩
        case round =>
          clear HO0 HG1 HG0 HB0 hcA
          obtain ⟨k, L3, A3, c3, A4, L4, c4, gs, G, rfl, rfl, rfl, hk, hL3, HO, HRd, HI, HB⟩ := hrel
          have hst := HStr.out k gs G HI.out
          have hL4 : G.length = L4 := HRd.out.slen
          by_cases hlt : k < n
          · obtain ⟨b2, o2, e9, _, hcs⟩ := (Hr.out.below HB.out).strD hlt
            injection e9 with e9; injection e9 with e91 e92; subst e91 e92
            have hc1 := hcs k hlt
            have HSk : Hid (hasB G (getS ss k) = true → GInv ss (k + 1) gs G) := fun h => HI.out.skip (by have := Hr.out.slen; omega) h
            have HNk : Hid (genB (headS ss).size (gs ++ [getS ss k]) n = true → GInv ss (k + 1) (gs ++ [getS ss k]) (genL (headS ss).size (gs ++ [getS ss k]) n)) := fun h => HNext.out k gs G HI.out hlt h
            have HFk : Hid (genB (headS ss).size (gs ++ [getS ss k]) n = false → grpB ss = false) := fun h => HFail.out k gs G HI.out hlt h
            have hgl : gs.length = L3 := by have := HO.out.rd.slen; exact this
            have HGk : Hid (∀ A5 c5 W', Rd W' A5 (L3 + 1) (strsV gs ++ [.string (getS ss k)]) → Calls Try.prog 50 #[.int .i64 ((getS ss k).size : Int), .slice A5 (L3 + 1) c5, .int .i64 (n : Int)] W' (RetSB 9 (strsV (genL (headS ss).size (gs ++ [getS ss k]) n)) (genB (headS ss).size (gs ++ [getS ss k]) n) W')) := fun A5 c5 W' hrd => by
              rw [← hgl]
              refine HGen.out k gs G A5 c5 W' (getS ss k) (HSz.out k hlt) HI.out hlt ?_
              rw [hgl, strsV_app, strsV_one]; exact hrd
            obtain ⟨gl, hgl2⟩ : ∃ g, g = genL (headS ss).size (gs ++ [getS ss k]) n := ⟨_, rfl⟩
            obtain ⟨gb, hgb⟩ : ∃ g, g = genB (headS ss).size (gs ++ [getS ss k]) n := ⟨_, rfl⟩
            rw [← hgl2] at HNk HGk
            rw [← hgb] at HNk HFk HGk
            obtain ⟨r, hr⟩ : ∃ r, r = getS ss k := ⟨_, rfl⟩
            rw [← hr] at hc1 HSk HNk HGk
            have HHas := Lib.hid (has_any A4 L4 c4 G r wr (by omega) HRd.out hst.1)
            have HAp := Lib.hid (strsV_app gs [r])
            obtain ⟨q, hq⟩ : ∃ q, q = hasB G r := ⟨_, rfl⟩
            rw [← hq] at HHas HSk
            have i1 : (k : Int) < (n : Int) := by omega
            clear hcs hst hgl hgl2 hgb hr hq HI
            cases q with
            | true =>
              have HN1 := Lib.hid (HSk.out (by trivial))
              clear HSk HNk HFk HGk
              go_wp2_with (go_at_call 65; refine HHas.out.mono ?_; rintro e x5 ⟨rfl, d5, rfl⟩)
              have HB5 : Hid (Below W.heap.size W (wr.drewN d5)) := below_drewN' HB.out _
              go_roundw
              case rel => exact ⟨k + 1, L3, A3, c3, A4, L4, c4, gs, G, by go_num, rfl, rfl, by omega, by omega, HO.out.drewN d5, HRd.out.drewN d5, HN1.out, HB5.out⟩
              case measure => (simp [intOf] <;> omega)
            | false =>
              clear HSk
              have hWs : W.heap.size ≤ wr.heap.size := HB.out.size
              cases gb with
              | true =>
                have HN1 := Lib.hid (HNk.out (by trivial))
                clear HNk HFk
                go_wp2_with first
                  | (go_at_call 65; refine HHas.out.mono ?_; rintro e x5 ⟨rfl, d5, rfl⟩)
                  | (at_builtin; refine wpList_append1x (wr.drewN d5) rfl (.tmp 42) (.tmp 44) 22 rfl 9 (.string ByteArray.empty) 16 Try.underlying22 info_str rfl W.heap.size A3 L3 c3 _ (.string r) rfl rfl rfl (HO.out.drewN d5) (by omega) (by omega) hWs ?_; intro A7 c7 x7 ho7 hx7 hsz7 hat7)
                  | (go_at_call 50; refine (HGk.out A7 c7 x7 ho7.rd).mono ?_; rintro e x8 ⟨A8, n8, c8, rfl, ho8, hb8⟩)
                have HB7 : Below W.heap.size W x7 := (below_drewN' HB.out d5).trans ((HO.out.drewN d5).below_ hx7 hWs)
                have HB8 : Hid (Below W.heap.size W x8) := HB7.trans (hb8.mono HB7.size)
                have HO8 : Hid (Own x8 9 W.heap.size x8.heap.size A7 (L3 + 1) c7 (strsV (gs ++ [r]))) := ((ho7.congr (by rw [HAp.out, strsV_one])).below hb8).mono (Nat.le_refl _) hb8.size
                have HR8 : Hid (Rd x8 A8 n8 (strsV gl)) := ho8.rd
                clear HB7 ho7 hx7 hat7 ho8 hb8
                go_roundw
                case rel => exact ⟨k + 1, L3 + 1, A7, c7, A8, n8, c8, _, gl, by go_num, rfl, rfl, by omega, by omega, HO8.out, HR8.out, HN1.out, HB8.out⟩
                case measure => (simp [intOf] <;> omega)
              | false =>
                have E := Lib.hid (HFk.out (by trivial))
                clear HNk HFk
                go_wp2_with first
                  | (go_at_call 65; refine HHas.out.mono ?_; rintro e x5 ⟨rfl, d5, rfl⟩)
                  | (at_builtin; refine wpList_append1x (wr.drewN d5) rfl (.tmp 42) (.tmp 44) 22 rfl 9 (.string ByteArray.empty) 16 Try.underlying22 info_str rfl W.heap.size A3 L3 c3 _ (.string r) rfl rfl rfl (HO.out.drewN d5) (by omega) (by omega) hWs ?_; intro A7 c7 x7 ho7 hx7 hsz7 hat7)
                  | (go_at_call 50; refine (HGk.out A7 c7 x7 ho7.rd).mono ?_; rintro e x8 ⟨A8, n8, c8, rfl, ho8, hb8⟩)
                have HB7 : Below W.heap.size W x7 := (below_drewN' HB.out d5).trans ((HO.out.drewN d5).below_ hx7 hWs)
                have HB8 : Hid (Below W.heap.size W x8) := HB7.trans (hb8.mono HB7.size)
                clear HB7 ho7 hx7 hat7 ho8 hb8
                go_ret
                exact ⟨ret_b (by rw [E.out]; simp), HB8.out⟩
          · obtain rfl : k = n := by omega
            have HD := Lib.hid (HDone.out gs G HI.out)
            have HE := Lib.hid (HEq.out A4 L4 c4 wr G (by omega) (by omega) HRd.out (Hr.out.below HB.out))
            clear hst HI
            go_wp2_with (go_at_call 66; refine HE.out.mono ?_; rintro e x5 ⟨v5, rfl, hv5, d5, rfl⟩)
            have HB5 : Hid (Below W.heap.size W (wr.drewN d5)) := below_drewN' HB.out _
            go_ret
            refine ⟨ret_b ?_, HB5.out⟩
            rw [HInc.out, Bool.true_and, Bool.eq_iff_iff]
            exact HD.out.symm.trans hv5.symm
      · have E : Hid (grpB ss = false) := grpB_false.2 fun h => hx h.2.1
        have HInc := Lib.hid hinc
        rw [hinc] at HIn
        have Hr := Lib.hid hr
        obtain ⟨x, hxx⟩ : ∃ x, x = headS ss := ⟨_, rfl⟩
        obtain ⟨y, hyy⟩ : ∃ x, x = mkS (roundsL (headS ss).size) := ⟨_, rfl⟩
        rw [← hyy] at HRo hx
        rw [← hxx] at hc0 HRo hx
        have hxq := ne_list hx
        clear hr hok hl h2 h00 h3 hh3 hh8 hRN e0 hcs hx hxx hyy hinc
        go_enter Try.func43, Try.ntmps43
        go_wp2
        go_quiet (first | (go_at_call 48; with_reducible exact Calls.quiet_of (HIn.out _ (Hr.out.drewN _))) | (go_at_call 34; with_reducible exact Calls.quiet_of_same (HRo.out _)))
        go_wp2
        go_ret
        exact ⟨ret_b (by rw [E.out]; simp), below_drewN' (Below.refl _ _) _⟩
    · have hinc' : incB ss = false := by simpa using hinc
      have HInc := Lib.hid hinc'
      rw [hinc'] at HIn
      have Hr := Lib.hid hr
      clear hr hok hl h2 h00 h3 hh3 hh8 hRN e0 hcs hinc hinc' hc0
      go_enter Try.func43, Try.ntmps43
      go_wp2
      go_quiet (first | (go_at_call 48; with_reducible exact Calls.quiet_of (HIn.out _ (Hr.out.drewN _))) | (go_at_call 34; with_reducible exact Calls.quiet_of_same (HRo.out _)))
      go_wp2
      go_ret
      exact ⟨ret_b (by rw [HInc.out]; rfl), below_drewN' (Below.refl _ _) _⟩
end Go.Proofs.Ytajmjfekddgelaa
