/- The walks of the counts of rows, and of the least and the greatest of a list. -/
import Derived.Test.YtllbakbhdfoadaaWalkG
import Derived.Test.YtllbakbhdfoadaaWalkD
import Derived.Test.YtllbakbhdfoadaaWalkH
import Derived.Test.YtllbakbhdfoadaaKit4
namespace Go.Proofs.Ytllbakbhdfoadaa
open Go.RowKit
set_option linter.unusedVariables false

def bump (l : List Int) (r : Nat) : List Int := l.set r (l.getD r 0 + 1)
def cntL (F : Nat) (ss : List ByteArray) : List Int := ss.foldl (fun l s => bump l (rankL (bs s))) (List.replicate F 0)
theorem cntL_snoc {F : Nat} {ss : List ByteArray} {k : Nat} (h : k < ss.length) : cntL F (ss.take (k + 1)) = bump (cntL F (ss.take k)) (rankL (bs ss[k])) := by
  rw [List.take_succ_eq_append_getElem h]; simp only [cntL, List.foldl_append, List.foldl_cons, List.foldl_nil]
theorem cntL_length (F : Nat) (ss : List ByteArray) : (cntL F ss).length = F := by
  have : ∀ (l : List Int), (ss.foldl (fun l s => bump l (rankL (bs s))) l).length = l.length := by
    induction ss with
    | nil => intro l; rfl
    | cons s t ih => intro l; rw [List.foldl_cons, ih]; simp [bump]
  unfold cntL; rw [this]; simp
theorem bump_bd {l : List Int} {r : Nat} {b : Int} (h : ∀ j, 0 ≤ l.getD j 0 ∧ l.getD j 0 ≤ b) (hb : 0 ≤ b) (j : Nat) : 0 ≤ (bump l r).getD j 0 ∧ (bump l r).getD j 0 ≤ b + 1 := by
  have h1 := h j
  have h2 := h r
  unfold bump
  generalize hz : l.getD r 0 + 1 = z
  have e : (l.set r z).getD j 0 = if r = j ∧ j < l.length then z else l.getD j 0 := by
    simp only [List.getD_eq_getElem?_getD, List.getElem?_set]
    by_cases e1 : r = j
    · subst e1
      by_cases e2 : r < l.length
      · simp [e2]
      · simp [e2]
    · simp [e1]
  rw [e]
  split <;> omega
theorem cntL_bd (F : Nat) (ss : List ByteArray) (k : Nat) (hk : k ≤ ss.length) : ∀ j, 0 ≤ (cntL F (ss.take k)).getD j 0 ∧ (cntL F (ss.take k)).getD j 0 ≤ (k : Int) := by
  induction k with
  | zero =>
    intro j
    have : (List.replicate F (0 : Int)).getD j 0 = 0 := by
      simp only [List.getD_eq_getElem?_getD, List.getElem?_replicate]
      split <;> rfl
    rw [show cntL F (ss.take 0) = List.replicate F 0 from rfl, this]
    omega
  | succ k ih =>
    intro j
    rw [cntL_snoc (by omega)]
    have := bump_bd (r := rankL (bs ss[k])) (ih (by omega)) (by omega) j
    omega
def SmallOK (ss : List ByteArray) : Prop := RowsOK ss ∧ 0 < ss.length ∧ (headS ss).size ≤ 6
instance (ss : List ByteArray) : Decidable (SmallOK ss) := by unfold SmallOK; infer_instance
def smallB (ss : List ByteArray) : Bool := decide (SmallOK ss)
def cntS (ss : List ByteArray) : List Int := cntL (factN (headS ss).size) ss
theorem fact_6 {m : Nat} (h : m ≤ 6) : 1 ≤ factN m ∧ factN m ≤ 720 := by
  obtain rfl | rfl | rfl | rfl | rfl | rfl | rfl : m = 0 ∨ m = 1 ∨ m = 2 ∨ m = 3 ∨ m = 4 ∨ m = 5 ∨ m = 6 := by omega
  all_goals decide
def levelB (zs : List Int) : Bool := decide (∀ j, j < zs.length → zs.getD j 0 = zs.getD 0 0)
theorem getI {zs : List Int} {j : Nat} (h : j < zs.length) : zs.getD j 0 ∈ zs := by
  rw [List.getD_eq_getElem?_getD, List.getElem?_eq_getElem h]; exact List.getElem_mem h
theorem level_minmax {zs : List Int} {a b : Int} (h0 : 0 < zs.length) (ha : a ∈ zs) (hb : b ∈ zs) (la : ∀ z ∈ zs, a ≤ z) (lb : ∀ z ∈ zs, z ≤ b) : (a == b) = levelB zs := by
  by_cases h : a = b
  · rw [show levelB zs = true from decide_eq_true fun j hj => by
      have h1 := la _ (getI hj); have h2 := lb _ (getI hj)
      have h3 := la _ (getI h0); have h4 := lb _ (getI h0)
      omega]
    simp [h]
  · rw [show levelB zs = false from decide_eq_false fun hh => h (by
      obtain ⟨i, hi, rfl⟩ := List.getElem_of_mem ha
      obtain ⟨j, hj, rfl⟩ := List.getElem_of_mem hb
      have h1 := hh i hi; have h2 := hh j hj
      simp only [List.getD_eq_getElem?_getD, List.getElem?_eq_getElem hi, List.getElem?_eq_getElem hj, Option.getD_some] at h1 h2
      omega)]
    simp [h]

set_option maxRecDepth 100000 in
set_option maxHeartbeats 1000000 in
theorem Min_any (A : Option Addr) (n c : Nat) (zs : List Int) (w : World) (hn : n ≤ 1048576) (h0 : 0 < n) (hr : Rd w A n (intsV zs)) :
    Calls Try.prog 92 #[.slice A n c] w fun e w' => ∃ r : Int, e = .returned (.int .i64 r) ∧ w = w' ∧ r ∈ zs ∧ ∀ z ∈ zs, r ≤ z := by
  have hl := hr.ilen
  obtain ⟨b, off, rfl, hbs, hcs⟩ := hr.intD h0
  have hc0 : w.cell? ⟨b, off, none⟩ = some (.int .i64 (zs.getD 0 0)) := hcs 0 h0
  obtain ⟨z0, hz0⟩ : ∃ z, z = zs.getD 0 0 := ⟨_, rfl⟩
  rw [← hz0] at hc0
  have Hz0 := Lib.hid hz0
  have Hl := Lib.hid hl
  have Hcs := Lib.hid hcs
  have hn1 : (1 : Int) ≤ (n : Int) := by omega
  have hn2 : (0 : Int) < (n : Int) := by omega
  clear hl hz0 hcs hr
  go_enter Try.func92, Try.ntmps92
  go_wp2
  go_loop [3, 4] (fun m i => ∃ (k : Nat) (z : Int), k + 1 ≤ n ∧ m = .int .i64 z ∧ i = .int .i64 ((k : Int) + 1) ∧ Hid (z ∈ zs ∧ ∀ j, j < k + 1 → z ≤ zs.getD j 0)) (fun _ i => n - (intOf i).toNat)
  case atStart =>
    refine ⟨0, z0, by omega, rfl, rfl, ?_, fun j hj => ?_⟩
    · rw [Hz0.out]; exact getI (by have := Hl.out; omega)
    · obtain rfl : j = 0 := by omega
      rw [Hz0.out]; omega
  case round =>
    obtain ⟨k, z, hk, rfl, rfl, HM⟩ := hrel
    by_cases hlt : k + 1 < n
    · have i1 : (k : Int) + 1 < (n : Int) := by omega
      have hc := Hcs.out (k + 1) hlt
      obtain ⟨y, hy⟩ : ∃ y, y = zs.getD (k + 1) 0 := ⟨_, rfl⟩
      rw [← hy] at hc
      have Hy := Lib.hid hy
      have HM2 : Hid (min z y ∈ zs ∧ ∀ j, j < k + 1 + 1 → min z y ≤ zs.getD j 0) := by
        refine ⟨?_, fun j hj => ?_⟩
        · have h1 := HM.out.1
          have h2 : y ∈ zs := by rw [hy]; exact getI (by have := Hl.out; omega)
          rcases (show min z y = z ∨ min z y = y by omega) with e | e
          · rw [e]; exact h1
          · rw [e]; exact h2
        · by_cases e : j = k + 1
          · subst e; rw [← Hy.out]; omega
          · have := HM.out.2 j (by omega); omega
      clear hy
      go_wp2
      go_round
      case rel => exact ⟨k + 1, min z y, by omega, val_i (by first | rfl | (split <;> omega)), by go_num, HM2.out⟩
      case measure => (simp [intOf] <;> omega)
    · have hge : (n : Int) ≤ (k : Int) + 1 := by omega
      clear hlt
      go_wp2
      go_ret
      refine ⟨z, rfl, rfl, HM.out.1, fun x hx => ?_⟩
      obtain ⟨i, hi, rfl⟩ := List.getElem_of_mem hx
      have := HM.out.2 i (by have := Hl.out; omega)
      rwa [List.getD_eq_getElem?_getD, List.getElem?_eq_getElem hi] at this
set_option maxRecDepth 100000 in
set_option maxHeartbeats 1000000 in
theorem Max_any (A : Option Addr) (n c : Nat) (zs : List Int) (w : World) (hn : n ≤ 1048576) (h0 : 0 < n) (hr : Rd w A n (intsV zs)) :
    Calls Try.prog 93 #[.slice A n c] w fun e w' => ∃ r : Int, e = .returned (.int .i64 r) ∧ w = w' ∧ r ∈ zs ∧ ∀ z ∈ zs, z ≤ r := by
  have hl := hr.ilen
  obtain ⟨b, off, rfl, hbs, hcs⟩ := hr.intD h0
  have hc0 : w.cell? ⟨b, off, none⟩ = some (.int .i64 (zs.getD 0 0)) := hcs 0 h0
  obtain ⟨z0, hz0⟩ : ∃ z, z = zs.getD 0 0 := ⟨_, rfl⟩
  rw [← hz0] at hc0
  have Hz0 := Lib.hid hz0
  have Hl := Lib.hid hl
  have Hcs := Lib.hid hcs
  have hn1 : (1 : Int) ≤ (n : Int) := by omega
  have hn2 : (0 : Int) < (n : Int) := by omega
  clear hl hz0 hcs hr
  go_enter Try.func93, Try.ntmps93
  go_wp2
  go_loop [3, 4] (fun m i => ∃ (k : Nat) (z : Int), k + 1 ≤ n ∧ m = .int .i64 z ∧ i = .int .i64 ((k : Int) + 1) ∧ Hid (z ∈ zs ∧ ∀ j, j < k + 1 → zs.getD j 0 ≤ z)) (fun _ i => n - (intOf i).toNat)
  case atStart =>
    refine ⟨0, z0, by omega, rfl, rfl, ?_, fun j hj => ?_⟩
    · rw [Hz0.out]; exact getI (by have := Hl.out; omega)
    · obtain rfl : j = 0 := by omega
      rw [Hz0.out]; omega
  case round =>
    obtain ⟨k, z, hk, rfl, rfl, HM⟩ := hrel
    by_cases hlt : k + 1 < n
    · have i1 : (k : Int) + 1 < (n : Int) := by omega
      have hc := Hcs.out (k + 1) hlt
      obtain ⟨y, hy⟩ : ∃ y, y = zs.getD (k + 1) 0 := ⟨_, rfl⟩
      rw [← hy] at hc
      have Hy := Lib.hid hy
      have HM2 : Hid (max z y ∈ zs ∧ ∀ j, j < k + 1 + 1 → zs.getD j 0 ≤ max z y) := by
        refine ⟨?_, fun j hj => ?_⟩
        · have h1 := HM.out.1
          have h2 : y ∈ zs := by rw [hy]; exact getI (by have := Hl.out; omega)
          rcases (show max z y = z ∨ max z y = y by omega) with e | e
          · rw [e]; exact h1
          · rw [e]; exact h2
        · by_cases e : j = k + 1
          · subst e; rw [← Hy.out]; omega
          · have := HM.out.2 j (by omega); omega
      clear hy
      go_wp2
      go_round
      case rel => exact ⟨k + 1, max z y, by omega, val_i (by first | rfl | (split <;> omega)), by go_num, HM2.out⟩
      case measure => (simp [intOf] <;> omega)
    · have hge : (n : Int) ≤ (k : Int) + 1 := by omega
      clear hlt
      go_wp2
      go_ret
      refine ⟨z, rfl, rfl, HM.out.1, fun x hx => ?_⟩
      obtain ⟨i, hi, rfl⟩ := List.getElem_of_mem hx
      have := HM.out.2 i (by have := Hl.out; omega)
      rwa [List.getD_eq_getElem?_getD, List.getElem?_eq_getElem hi] at this
set_option maxRecDepth 100000 in
set_option maxHeartbeats 1000000 in
theorem l7Small_any (A : Option Addr) (n c : Nat) (ss : List ByteArray) (w : World) (hr : Rd w A n (strsV ss)) (hz : ∀ s ∈ ss, s.size ≤ maxLen) :
    Calls Try.prog 88 #[.slice A n c] w fun e w' => e = .returned (.bool (smallB ss)) ∧ ∃ d, w' = w.drewN d := by
  have Hr := Lib.hid hr
  have Hl := Lib.hid hr.slen
  have Hz := Lib.hid hz
  clear hr hz
  by_cases hrow : rowsB ss = true
  · have hro : RowsOK ss := by simpa [rowsB] using hrow
    by_cases h0 : n = 0
    · have E : Hid (smallB ss = false) := by
        have := Hl.out
        exact decide_eq_false fun h => by have := h.2.1; omega
      subst h0
      clear hro
      go_enter Try.func88, Try.ntmps88
      go_wp2_with (go_at_call 78; refine (l6Rows_any _ _ _ _ _ Hr.out Hz.out).mono ?_; rintro e w' ⟨rfl, d, rfl⟩)
      go_ret
      exact ⟨ret_b E.out, _, rfl⟩
    · obtain ⟨b, off, rfl, _, hc⟩ := Hr.out.str (k := 0) (by omega)
      rw [Nat.add_zero, ← headS_get (by have := Hl.out; omega)] at hc
      obtain ⟨x, hx⟩ : ∃ x, x = headS ss := ⟨_, rfl⟩
      rw [← hx] at hc
      have i1 : (0 : Int) < (n : Int) := by omega
      by_cases h6 : x.size ≤ 6
      · have i2 : (x.size : Int) ≤ 6 := by omega
        have E : Hid (smallB ss = true) := decide_eq_true ⟨hro, by have := Hl.out; omega, by rw [← hx]; exact h6⟩
        clear hx h0 h6 hro
        go_enter Try.func88, Try.ntmps88
        go_wp2_with (go_at_call 78; refine (l6Rows_any _ _ _ _ _ Hr.out Hz.out).mono ?_; rintro e w' ⟨rfl, d, rfl⟩)
        go_ret
        exact ⟨ret_b E.out, _, rfl⟩
      · have i2 : 6 < (x.size : Int) := by omega
        have i3 : decide ((x.size : Int) ≤ 6) = false := by simp; omega
        have E : Hid (smallB ss = false) := decide_eq_false fun h => by have := h.2.2; rw [← hx] at this; omega
        clear hx h0 h6 hro
        go_enter Try.func88, Try.ntmps88
        go_wp2_with (go_at_call 78; refine (l6Rows_any _ _ _ _ _ Hr.out Hz.out).mono ?_; rintro e w' ⟨rfl, d, rfl⟩)
        go_ret
        exact ⟨ret_b E.out, _, rfl⟩
  · have hrow' : rowsB ss = false := by simpa using hrow
    have E : Hid (smallB ss = false) := decide_eq_false fun h => by have := h.1; simp only [rowsB, decide_eq_false_iff_not] at hrow'; exact hrow' this
    clear hrow
    go_enter Try.func88, Try.ntmps88
    go_wp2_with (go_at_call 78; refine (l6Rows_any _ _ _ _ _ Hr.out Hz.out).mono ?_; rintro e w' ⟨rfl, d, rfl⟩)
    go_ret
    exact ⟨ret_b E.out, _, rfl⟩
set_option maxRecDepth 100000 in
set_option maxHeartbeats 1000000 in
theorem countable_any (A : Option Addr) (n c : Nat) (ss : List ByteArray) (w : World) (hr : Rd w A n (strsV ss)) (hz : ∀ s ∈ ss, s.size ≤ maxLen) :
    Calls Try.prog 90 #[.slice A n c] w fun e w' => e = .returned (.bool (smallB ss)) ∧ w = w' := by
  have Hr := Lib.hid hr
  have Hl := Lib.hid hr.slen
  have Hz := Lib.hid hz
  clear hr hz
  by_cases hrow : rowsB ss = true
  · have hro : RowsOK ss := by simpa [rowsB] using hrow
    by_cases h0 : n = 0
    · have E : Hid (smallB ss = false) := by
        have := Hl.out
        exact decide_eq_false fun h => by have := h.2.1; omega
      subst h0
      clear hro
      go_enter Try.func90, Try.ntmps90
      go_wp2_with (go_at_call 83; refine (GoodRows_any _ _ _ _ _ Hr.out Hz.out).mono ?_; rintro e w' ⟨rfl, rfl⟩)
      go_ret
      exact ⟨ret_b E.out, rfl⟩
    · obtain ⟨b, off, rfl, _, hc⟩ := Hr.out.str (k := 0) (by omega)
      rw [Nat.add_zero, ← headS_get (by have := Hl.out; omega)] at hc
      obtain ⟨x, hx⟩ : ∃ x, x = headS ss := ⟨_, rfl⟩
      rw [← hx] at hc
      have i1 : (0 : Int) < (n : Int) := by omega
      by_cases h6 : x.size ≤ 6
      · have i2 : (x.size : Int) ≤ 6 := by omega
        have E : Hid (smallB ss = true) := decide_eq_true ⟨hro, by have := Hl.out; omega, by rw [← hx]; exact h6⟩
        clear hx h0 h6 hro
        go_enter Try.func90, Try.ntmps90
        go_wp2_with (go_at_call 83; refine (GoodRows_any _ _ _ _ _ Hr.out Hz.out).mono ?_; rintro e w' ⟨rfl, rfl⟩)
        go_ret
        exact ⟨ret_b E.out, rfl⟩
      · have i2 : 6 < (x.size : Int) := by omega
        have i3 : decide ((x.size : Int) ≤ 6) = false := by simp; omega
        have E : Hid (smallB ss = false) := decide_eq_false fun h => by have := h.2.2; rw [← hx] at this; omega
        clear hx h0 h6 hro
        go_enter Try.func90, Try.ntmps90
        go_wp2_with (go_at_call 83; refine (GoodRows_any _ _ _ _ _ Hr.out Hz.out).mono ?_; rintro e w' ⟨rfl, rfl⟩)
        go_ret
        exact ⟨ret_b E.out, rfl⟩
  · have hrow' : rowsB ss = false := by simpa using hrow
    have E : Hid (smallB ss = false) := decide_eq_false fun h => by have := h.1; simp only [rowsB, decide_eq_false_iff_not] at hrow'; exact hrow' this
    clear hrow
    go_enter Try.func90, Try.ntmps90
    go_wp2_with (go_at_call 83; refine (GoodRows_any _ _ _ _ _ Hr.out Hz.out).mono ?_; rintro e w' ⟨rfl, rfl⟩)
    go_ret
    exact ⟨ret_b E.out, rfl⟩
set_option maxRecDepth 100000 in
set_option maxHeartbeats 2000000 in
theorem l7Often_any (A : Option Addr) (n c : Nat) (ss : List ByteArray) (w : World) (hr : Rd w A n (strsV ss)) (hs : SmallOK ss) :
    Calls Try.prog 89 #[.slice A n c] w (RetS 3 (intsV (cntS ss)) w) := by
  have Hr := Lib.hid hr
  have Hl := Lib.hid hr.slen
  have HS := Lib.hid hs
  have hn0 : 0 < n := by have := hr.slen; have := hs.2.1; omega
  have hn8 : n ≤ 800 := by have := hr.slen; have := hs.1.1; omega
  obtain ⟨b, off, rfl, hbs, hc⟩ := Hr.out.str (k := 0) (by omega)
  rw [Nat.add_zero, ← headS_get (by have := Hl.out; omega)] at hc
  obtain ⟨x, hx⟩ : ∃ x, x = headS ss := ⟨_, rfl⟩
  have hx6 : x.size ≤ 6 := by rw [hx]; exact hs.2.2
  rw [← hx] at hc
  obtain ⟨F, hF⟩ : ∃ F, F = factN x.size := ⟨_, rfl⟩
  have hF7 : F ≤ 720 := by rw [hF]; exact (fact_6 hx6).2
  have HC : Hid (cntS ss = cntL F ss) := by unfold Hid cntS; rw [hF, hx]
  have HA : Hid (∀ k (hk : k < ss.length), IsRow (bs ss[k]) ∧ ss[k].size ≤ 6 ∧ rankL (bs ss[k]) < F) := fun k hk => by
    have h1 := hs.1.2 _ (List.getElem_mem hk)
    have h2 := rankL_lt (bs ss[k])
    have h3 : ss[k].size = x.size := by rw [hx]; exact h1.2
    rw [size_bs, h3, ← hF] at h2
    exact ⟨h1.1, by omega, h2⟩
  have HFa : Hid (∀ W, Calls Try.prog 106 #[.int .i64 (x.size : Int)] W fun e w' => e = .returned (.int .i64 (F : Int)) ∧ W = w') := fun W => by
    have := l1Fact_any (x.size : Int) W (by omega) (by omega)
    rwa [Int.toNat_natCast, ← hF] at this
  clear hx hF hr hs
  obtain ⟨w1, hmk, hown, hbel, hlt⟩ := make_row (P := Try.prog) w 38 3 (.int .i64 0) 8 Try.underlying38 info_int rfl (by omega) F (by omega)
  have HO0 : Hid (Own w1 3 w.heap.size w1.heap.size (some ⟨w.heap.size, 0, none⟩) F F (intsV (cntL F (ss.take 0)))) := by
    refine hown.congr ?_
    simp [intsV, cntL]
  clear hown
  go_enter Try.func89, Try.ntmps89
  go_wp2_with fail
  refine (HFa.out _).mono ?_
  rintro e w' ⟨rfl, rfl⟩
  go_wp2
  go_loopw [14] (fun i wr => ∃ k : Nat, i = .int .i64 k ∧ k ≤ n ∧ Hid (Own wr 3 w.heap.size wr.heap.size (some ⟨w.heap.size, 0, none⟩) F F (intsV (cntL F (ss.take k)))) ∧ Hid (Below w.heap.size w wr)) (fun i _ => n - (intOf i).toNat)
  case atStart => exact ⟨0, rfl, by omega, HO0.out, hbel⟩
  case round =>
    obtain ⟨k, rfl, hk, HO, HB⟩ := hrel
    by_cases hkn : k < n
    · have i1 : (k : Int) < (n : Int) := by omega
      have hkl : k < ss.length := by have := Hl.out; omega
      have hck : wr.cell? ⟨b, off + k, none⟩ = some (.string ss[k]) := by
        obtain ⟨b', off', e, _, h⟩ := (Hr.out.below HB.out).str hkn
        injection e with e; injection e with e1 e2; subst e1 e2
        exact h
      have HSN := Lib.hid (cntL_snoc (F := F) hkl)
      obtain ⟨hrow, hs6, hrk⟩ := HA.out k hkl
      have hbd := cntL_bd F ss k (by omega)
      obtain ⟨s, hs⟩ : ∃ s, s = ss[k] := ⟨_, rfl⟩
      rw [← hs] at hck HSN hs6 hrk
      clear hs hrow
      have HP := Lib.hid (l1Place_any s wr (by omega))
      obtain ⟨r, hr⟩ : ∃ r, r = rankL (bs s) := ⟨_, rfl⟩
      rw [← hr] at HSN hrk HP
      clear hr
      have hll := cntL_length F (ss.take k)
      obtain ⟨z, hz⟩ : ∃ z, z = (cntL F (ss.take k)).getD r 0 := ⟨_, rfl⟩
      obtain ⟨z0, z1⟩ : 0 ≤ z ∧ z ≤ (k : Int) := by rw [hz]; exact hbd r
      have hcz : wr.cell? ⟨w.heap.size, r, none⟩ = some (.int .i64 z) := by
        have h1 := HO.out.mem.get (j := r) (by rw [intsV_length, hll]; exact hrk)
        rw [h1, intsV_get, hz, List.getD_eq_getElem?_getD, List.getElem?_eq_getElem (by rw [hll]; exact hrk)]; rfl
      have hfz : wr.frozen? ⟨w.heap.size, r, none⟩ = false := HO.out.mem.free (by rw [intsV_length, hll]; exact hrk)
      have HO2 : Hid (∀ d, Own ((wr.drewN d).setCell ⟨w.heap.size, r, none⟩ (.int .i64 (z + 1))) 3 w.heap.size wr.heap.size (some ⟨w.heap.size, 0, none⟩) F F (intsV (cntL F (ss.take (k + 1))))) := fun d => by
        refine ((HO.out.drewN d).set_ r (.int .i64 (z + 1))).congr ?_
        rw [HSN.out, bump, ← hz]; simp [intsV, List.map_set]
      have i2 : (r : Int) < (F : Int) := by omega
      clear hz hll hbd HSN
      go_wp2_with fail
      refine (HP.out).mono ?_
      rintro e w' ⟨rfl, d, rfl⟩
      go_wp2
      go_roundw
      case rel => exact ⟨k + 1, by go_num, by omega, (HO2.out d).mono (Nat.le_refl _) (by simp), by first | exact (below_drewN' HB.out d).setCell (Nat.le_refl _) _ | exact below_drewN' (HB.out.setCell (Nat.le_refl _) _) d⟩
      case measure => (simp [intOf] <;> omega)
    · have hge : (n : Int) ≤ (k : Int) := by omega
      have E : Hid (Own wr 3 w.heap.size wr.heap.size (some ⟨w.heap.size, 0, none⟩) F F (intsV (cntS ss))) := by
        have h := HO.out
        rw [List.take_of_length_le (by have := Hl.out; omega)] at h
        rw [HC.out]; exact h
      clear hkn
      go_wp2
      go_ret
      exact ⟨_, _, _, rfl, E.out, HB.out⟩
set_option maxRecDepth 100000 in
set_option maxHeartbeats 2000000 in
theorem counts_any (A : Option Addr) (n c : Nat) (ss : List ByteArray) (w : World) (hr : Rd w A n (strsV ss)) (hs : SmallOK ss) :
    Calls Try.prog 91 #[.slice A n c] w (RetS 3 (intsV (cntS ss)) w) := by
  have Hr := Lib.hid hr
  have Hl := Lib.hid hr.slen
  have HS := Lib.hid hs
  have hn0 : 0 < n := by have := hr.slen; have := hs.2.1; omega
  have hn8 : n ≤ 800 := by have := hr.slen; have := hs.1.1; omega
  obtain ⟨b, off, rfl, hbs, hc⟩ := Hr.out.str (k := 0) (by omega)
  rw [Nat.add_zero, ← headS_get (by have := Hl.out; omega)] at hc
  obtain ⟨x, hx⟩ : ∃ x, x = headS ss := ⟨_, rfl⟩
  have hx6 : x.size ≤ 6 := by rw [hx]; exact hs.2.2
  rw [← hx] at hc
  obtain ⟨F, hF⟩ : ∃ F, F = factN x.size := ⟨_, rfl⟩
  have hF7 : F ≤ 720 := by rw [hF]; exact (fact_6 hx6).2
  have HC : Hid (cntS ss = cntL F ss) := by unfold Hid cntS; rw [hF, hx]
  have HA : Hid (∀ k (hk : k < ss.length), IsRow (bs ss[k]) ∧ ss[k].size ≤ 6 ∧ rankL (bs ss[k]) < F) := fun k hk => by
    have h1 := hs.1.2 _ (List.getElem_mem hk)
    have h2 := rankL_lt (bs ss[k])
    have h3 : ss[k].size = x.size := by rw [hx]; exact h1.2
    rw [size_bs, h3, ← hF] at h2
    exact ⟨h1.1, by omega, h2⟩
  have HFa : Hid (∀ W, Calls Try.prog 108 #[.int .i64 (x.size : Int)] W fun e w' => e = .returned (.int .i64 (F : Int)) ∧ W = w') := fun W => by
    have := factorial_any (x.size : Int) W (by omega) (by omega)
    rwa [Int.toNat_natCast, ← hF] at this
  clear hx hF hr hs
  obtain ⟨w1, hmk, hown, hbel, hlt⟩ := make_row (P := Try.prog) w 38 3 (.int .i64 0) 8 Try.underlying38 info_int rfl (by omega) F (by omega)
  have HO0 : Hid (Own w1 3 w.heap.size w1.heap.size (some ⟨w.heap.size, 0, none⟩) F F (intsV (cntL F (ss.take 0)))) := by
    refine hown.congr ?_
    simp [intsV, cntL]
  clear hown
  go_enter Try.func91, Try.ntmps91
  go_wp2_with fail
  refine (HFa.out _).mono ?_
  rintro e w' ⟨rfl, rfl⟩
  go_wp2
  go_loopw [14] (fun i wr => ∃ k : Nat, i = .int .i64 k ∧ k ≤ n ∧ Hid (Own wr 3 w.heap.size wr.heap.size (some ⟨w.heap.size, 0, none⟩) F F (intsV (cntL F (ss.take k)))) ∧ Hid (Below w.heap.size w wr)) (fun i _ => n - (intOf i).toNat)
  case atStart => exact ⟨0, rfl, by omega, HO0.out, hbel⟩
  case round =>
    obtain ⟨k, rfl, hk, HO, HB⟩ := hrel
    by_cases hkn : k < n
    · have i1 : (k : Int) < (n : Int) := by omega
      have hkl : k < ss.length := by have := Hl.out; omega
      have hck : wr.cell? ⟨b, off + k, none⟩ = some (.string ss[k]) := by
        obtain ⟨b', off', e, _, h⟩ := (Hr.out.below HB.out).str hkn
        injection e with e; injection e with e1 e2; subst e1 e2
        exact h
      have HSN := Lib.hid (cntL_snoc (F := F) hkl)
      obtain ⟨hrow, hs6, hrk⟩ := HA.out k hkl
      have hbd := cntL_bd F ss k (by omega)
      obtain ⟨s, hs⟩ : ∃ s, s = ss[k] := ⟨_, rfl⟩
      rw [← hs] at hck HSN hs6 hrk
      clear hs hrow
      have HP := Lib.hid (rankOf_any s wr (by omega))
      obtain ⟨r, hr⟩ : ∃ r, r = rankL (bs s) := ⟨_, rfl⟩
      rw [← hr] at HSN hrk HP
      clear hr
      have hll := cntL_length F (ss.take k)
      obtain ⟨z, hz⟩ : ∃ z, z = (cntL F (ss.take k)).getD r 0 := ⟨_, rfl⟩
      obtain ⟨z0, z1⟩ : 0 ≤ z ∧ z ≤ (k : Int) := by rw [hz]; exact hbd r
      have hcz : wr.cell? ⟨w.heap.size, r, none⟩ = some (.int .i64 z) := by
        have h1 := HO.out.mem.get (j := r) (by rw [intsV_length, hll]; exact hrk)
        rw [h1, intsV_get, hz, List.getD_eq_getElem?_getD, List.getElem?_eq_getElem (by rw [hll]; exact hrk)]; rfl
      have hfz : wr.frozen? ⟨w.heap.size, r, none⟩ = false := HO.out.mem.free (by rw [intsV_length, hll]; exact hrk)
      have HO2 : Hid (∀ d, Own ((wr.drewN d).setCell ⟨w.heap.size, r, none⟩ (.int .i64 (z + 1))) 3 w.heap.size wr.heap.size (some ⟨w.heap.size, 0, none⟩) F F (intsV (cntL F (ss.take (k + 1))))) := fun d => by
        refine ((HO.out.drewN d).set_ r (.int .i64 (z + 1))).congr ?_
        rw [HSN.out, bump, ← hz]; simp [intsV, List.map_set]
      have i2 : (r : Int) < (F : Int) := by omega
      clear hz hll hbd HSN
      go_wp2_with fail
      refine (HP.out).mono ?_
      rintro e w' ⟨rfl, d, rfl⟩
      go_wp2
      go_roundw
      case rel => exact ⟨k + 1, by go_num, by omega, (HO2.out d).mono (Nat.le_refl _) (by simp), by first | exact (below_drewN' HB.out d).setCell (Nat.le_refl _) _ | exact below_drewN' (HB.out.setCell (Nat.le_refl _) _) d⟩
      case measure => (simp [intOf] <;> omega)
    · have hge : (n : Int) ≤ (k : Int) := by omega
      have E : Hid (Own wr 3 w.heap.size wr.heap.size (some ⟨w.heap.size, 0, none⟩) F F (intsV (cntS ss))) := by
        have h := HO.out
        rw [List.take_of_length_le (by have := Hl.out; omega)] at h
        rw [HC.out]; exact h
      clear hkn
      go_wp2
      go_ret
      exact ⟨_, _, _, rfl, E.out, HB.out⟩
end Go.Proofs.Ytllbakbhdfoadaa
