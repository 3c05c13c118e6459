/- The walks of the check of a path. -/
import Derived.Test.YtllbakbhdfoadaaWalkI
import Derived.Test.YtllbakbhdfoadaaWalkA
import Derived.Test.YtllbakbhdfoadaaKit4
import Derived.Test.YtllbakbhdfoadaaPlain3
namespace Go.Proofs.Ytllbakbhdfoadaa
open Go.RowKit
set_option linter.unusedVariables false

def PathOK (zs : List Int) : Prop := zs.length ≤ 800 ∧ (∀ i, i < zs.length → 1 ≤ zs.getD i 0 ∧ zs.getD i 0 ≤ 8) ∧ ∀ i, i + 1 < zs.length → -1 ≤ zs.getD (i + 1) 0 - zs.getD i 0 ∧ zs.getD (i + 1) 0 - zs.getD i 0 ≤ 1
noncomputable def pathB (zs : List Int) : Bool := cb (PathOK zs)
theorem Rd.intC {w : World} {A : Option Addr} {n : Nat} {zs : List Int} (h : Rd w A n (intsV zs)) {k : Nat} (hk : k < n) :
    ∃ b off, A = some ⟨b, off, none⟩ ∧ b < w.heap.size ∧ ∀ j, j < n → w.cell? ⟨b, off + j, none⟩ = some (.int .i64 (zs.getD j 0)) := by
  obtain ⟨b, off, rfl, hb, _⟩ := h.int hk
  refine ⟨b, off, rfl, hb, fun j hj => ?_⟩
  obtain ⟨b', off', e, _, hc⟩ := h.int hj
  injection e with e; injection e with e1 e2; subst e1 e2
  have := h.ilen
  rw [hc]; simp [List.getElem?_eq_getElem (show j < zs.length by omega)]
set_option maxRecDepth 100000 in
set_option maxHeartbeats 1000000 in
theorem l1All_any (A : Option Addr) (n c : Nat) (zs : List Int) (lo hi : Int) (w : World) (hr : Rd w A n (intsV zs)) :
    Calls Try.prog 72 #[.slice A n c, .int .i64 lo, .int .i64 hi] w fun e w' => e = .returned (.bool (cb (∀ i, i < zs.length → lo ≤ zs.getD i 0 ∧ zs.getD i 0 ≤ hi))) ∧ w = w' := by
  have hn := hr.lenB
  have Hr := Lib.hid hr
  have Hl := Lib.hid hr.ilen
  clear hr
  go_enter Try.func72, Try.ntmps72
  go_wp2
  go_loop [11] (fun i => ∃ k : Nat, k ≤ n ∧ i = .int .i64 k ∧ Hid (∀ i, i < k → lo ≤ zs.getD i 0 ∧ zs.getD i 0 ≤ hi)) (fun i => n - (intOf i).toNat)
  case atStart => exact ⟨0, by omega, rfl, fun i hi => by omega⟩
  case round =>
    obtain ⟨k, hk, rfl, HT⟩ := hrel
    by_cases hlt : k < n
    · obtain ⟨b, off, rfl, _, hcs⟩ := Hr.out.intC hlt
      have hc := hcs k hlt
      obtain ⟨z, hz⟩ : ∃ z, z = zs.getD k 0 := ⟨_, rfl⟩
      rw [← hz] at hc
      have HZ := Lib.hid hz
      clear hcs hz
      have i1 : (k : Int) < (n : Int) := by omega
      by_cases hin : lo ≤ z ∧ z ≤ hi
      · have hb : inB z lo hi = true := inB_true hin.1 hin.2
        have HN : Hid (∀ i, i < k + 1 → lo ≤ zs.getD i 0 ∧ zs.getD i 0 ≤ hi) := by
          intro i hi'
          by_cases e : i = k
          · subst e; rw [← HZ.out]; exact hin
          · exact HT.out i (by omega)
        clear hin
        go_wp2_with (go_at_call 66; refine (l1In_any _ _ _ _).mono ?_; rintro e w' ⟨rfl, rfl⟩)
        go_round
        case rel => exact ⟨k + 1, by omega, by go_num, HN.out⟩
        case measure => (simp [intOf]; omega)
      · have hb : inB z lo hi = false := inB_false (by omega)
        have E : Hid (cb (∀ i, i < zs.length → lo ≤ zs.getD i 0 ∧ zs.getD i 0 ≤ hi) = false) := cb_false fun h => hin (by rw [HZ.out]; exact h k (by have := Hl.out; omega))
        clear hin
        go_wp2_with (go_at_call 66; refine (l1In_any _ _ _ _).mono ?_; rintro e w' ⟨rfl, rfl⟩)
        go_ret
        exact ⟨ret_b E.out, rfl⟩
    · have E : Hid (cb (∀ i, i < zs.length → lo ≤ zs.getD i 0 ∧ zs.getD i 0 ≤ hi) = true) := cb_true fun i hi' => HT.out i (by have := Hl.out; omega)
      go_wp2
      go_ret
      exact ⟨ret_b E.out, rfl⟩
set_option maxRecDepth 100000 in
set_option maxHeartbeats 2000000 in
theorem l5Good_any (A : Option Addr) (n c : Nat) (zs : List Int) (w : World) (hr : Rd w A n (intsV zs)) :
    Calls Try.prog 69 #[.slice A n c] w fun e w' => e = .returned (.bool (pathB zs)) ∧ w = w' := by
  have hn := hr.lenB
  have Hr := Lib.hid hr
  have Hl := Lib.hid hr.ilen
  clear hr
  go_enter Try.func69, Try.ntmps69
  go_wp2
  go_loop [7] (fun i => ∃ k : Nat, k ≤ n ∧ i = .int .i64 k ∧ Hid (∀ i, i + 1 < k → inB (wrap64 (zs.getD (i + 1) 0 - zs.getD i 0)) (-1) 1 = true)) (fun i => n - (intOf i).toNat)
  case atStart => exact ⟨0, by omega, rfl, fun i hi => by omega⟩
  case round =>
    obtain ⟨k, hk, rfl, HT⟩ := hrel
    by_cases hlt : k < n
    · obtain ⟨b, off, rfl, _, hcs⟩ := Hr.out.intC hlt
      have hc := hcs k hlt
      obtain ⟨z, hz⟩ : ∃ z, z = zs.getD k 0 := ⟨_, rfl⟩
      rw [← hz] at hc
      have i1 : (k : Int) < (n : Int) := by omega
      by_cases hk0 : k = 0
      · have g0 : decide ((0 : Int) < (k : Int)) = false := by simp [hk0]
        have g0' : (k : Int) ≤ 0 := by omega
        have HN : Hid (∀ i, i + 1 < k + 1 → inB (wrap64 (zs.getD (i + 1) 0 - zs.getD i 0)) (-1) 1 = true) := fun i hi => by omega
        clear hk0 hcs hz
        go_wp2
        go_round
        case rel => exact ⟨k + 1, by omega, by go_num, HN.out⟩
        case measure => (simp [intOf]; omega)
      · have g0 : decide ((0 : Int) < (k : Int)) = true := by simp; omega
        have g0' : 0 < (k : Int) := by omega
        have hcp := hcs (k - 1) (by omega)
        obtain ⟨y, hy⟩ : ∃ y, y = zs.getD (k - 1) 0 := ⟨_, rfl⟩
        rw [← hy] at hcp
        have j1 : (0 : Int) ≤ (k : Int) - 1 := by omega
        have hd : ∀ W, Calls Try.prog 66 #[.int .i64 (wrap64 (z - y)), .int .i64 (-1), .int .i64 1] W fun e w' => e = .returned (.bool (inB (wrap64 (z - y)) (-1) 1)) ∧ W = w' := fun W => l1In_any _ _ _ W
        cases hbv : inB (wrap64 (z - y)) (-1) 1 with
        | true =>
          have HN : Hid (∀ i, i + 1 < k + 1 → inB (wrap64 (zs.getD (i + 1) 0 - zs.getD i 0)) (-1) 1 = true) := by
            intro i hi
            by_cases e : i + 1 = k
            · rw [e, ← hz, show i = k - 1 by omega, ← hy]; exact hbv
            · exact HT.out i (by omega)
          clear hk0 hcs hz hy hd
          go_wp2_with (go_at_call 66; refine (l1In_any _ _ _ _).mono ?_; rintro e w' ⟨rfl, rfl⟩)
          go_round
          case rel => exact ⟨k + 1, by omega, by go_num, HN.out⟩
          case measure => (simp [intOf]; omega)
        | false =>
          have E : Hid (pathB zs = false) := cb_false fun h => by
            have hl := Hl.out
            have h1 := h.2.2 (k - 1) (by omega)
            have h2 := h.2.1 (k - 1) (by omega)
            have h3 := h.2.1 k (by omega)
            rw [show k - 1 + 1 = k by omega, ← hz, ← hy] at h1
            rw [← hy] at h2
            rw [← hz] at h3
            have hw : wrap64 (z - y) = z - y := by unfold wrap64; omega
            rw [hw, inB_true h1.1 h1.2] at hbv
            cases hbv
          clear hk0 hcs hz hy hd
          go_wp2_with (go_at_call 66; refine (l1In_any _ _ _ _).mono ?_; rintro e w' ⟨rfl, rfl⟩)
          go_ret
          exact ⟨ret_b E.out, rfl⟩
    · by_cases h8 : n ≤ 800
      · have h8' : (n : Int) ≤ 800 := by omega
        have E : Hid (pathB zs = cb (∀ i, i < zs.length → 1 ≤ zs.getD i 0 ∧ zs.getD i 0 ≤ 8)) := by
          have hl := Hl.out
          refine cb_congr ⟨fun h => h.2.1, fun h => ⟨by omega, h, fun i hi => ?_⟩⟩
          have h1 := HT.out i (by omega)
          have h2 := h i (by omega)
          have h3 := h (i + 1) hi
          have hw : wrap64 (zs.getD (i + 1) 0 - zs.getD i 0) = zs.getD (i + 1) 0 - zs.getD i 0 := by unfold wrap64; omega
          rw [hw] at h1
          simp only [inB, decide_eq_true_eq] at h1
          exact h1
        clear h8
        go_wp2_with (go_at_call 72; refine (l1All_any _ _ _ _ _ _ _ Hr.out).mono ?_; rintro e w' ⟨rfl, rfl⟩)
        go_ret
        exact ⟨ret_b E.out, rfl⟩
      · have h8' : 800 < (n : Int) := by omega
        have E : Hid (pathB zs = false) := cb_false fun h => by have := h.1; have := Hl.out; omega
        clear h8
        go_wp2
        go_ret
        exact ⟨ret_b E.out, rfl⟩
set_option maxHeartbeats 400000 in
theorem isBell_any (n b : Int) (w : World) : Calls Try.prog 75 #[.int .i64 n, .int .i64 b] w fun e w' => e = .returned (.bool (inB b 1 n)) ∧ w = w' := by
  by_cases h1 : 1 ≤ b
  · by_cases h2 : b ≤ n
    · have e : inB b 1 n = true := by simp [inB, h1, h2]
      go_enter Try.func75, Try.ntmps75
      go_wp2
      go_ret
      exact ⟨by simp [e], rfl⟩
    · have e : inB b 1 n = false := by simp [inB, h2]
      go_enter Try.func75, Try.ntmps75
      go_wp2
      go_ret
      exact ⟨by simp [e], rfl⟩
  · have e : inB b 1 n = false := by simp [inB, h1]
    go_enter Try.func75, Try.ntmps75
    go_wp2
    go_ret
    exact ⟨by simp [e], rfl⟩
set_option maxRecDepth 100000 in
set_option maxHeartbeats 2000000 in
theorem isPath_any (A : Option Addr) (n c : Nat) (zs : List Int) (w : World) (hr : Rd w A n (intsV zs)) :
    Calls Try.prog 70 #[.slice A n c] w fun e w' => e = .returned (.bool (pathB zs)) ∧ w = w' := by
  have hn := hr.lenB
  have Hr := Lib.hid hr
  have Hl := Lib.hid hr.ilen
  clear hr
  by_cases h8 : 800 < n
  · have h8' : 800 < (n : Int) := by omega
    have E : Hid (pathB zs = false) := cb_false fun h => by have := h.1; have := Hl.out; omega
    clear h8
    go_enter Try.func70, Try.ntmps70
    go_wp2
    go_ret
    exact ⟨ret_b E.out, rfl⟩
  have h8' : (n : Int) ≤ 800 := by omega
  go_enter Try.func70, Try.ntmps70
  go_wp2
  go_loop [10] (fun i => ∃ k : Nat, k ≤ n ∧ i = .int .i64 k ∧ Hid ((∀ i, i < k → 1 ≤ zs.getD i 0 ∧ zs.getD i 0 ≤ 8) ∧ ∀ i, i + 1 < k → -1 ≤ zs.getD (i + 1) 0 - zs.getD i 0 ∧ zs.getD (i + 1) 0 - zs.getD i 0 ≤ 1)) (fun i => n - (intOf i).toNat)
  case atStart => exact ⟨0, by omega, rfl, fun i hi => by omega, fun i hi => by omega⟩
  case round =>
    obtain ⟨k, hk, rfl, HT⟩ := hrel
    by_cases hlt : k < n
    · obtain ⟨b, off, rfl, _, hcs⟩ := Hr.out.intC hlt
      have hc := hcs k hlt
      obtain ⟨z, hz⟩ : ∃ z, z = zs.getD k 0 := ⟨_, rfl⟩
      rw [← hz] at hc
      have i1 : (k : Int) < (n : Int) := by omega
      by_cases hbell : 1 ≤ z ∧ z ≤ 8
      · have hb : inB z 1 8 = true := inB_true hbell.1 hbell.2
        obtain ⟨z1, z2⟩ := hbell
        by_cases hk0 : k = 0
        · have g0 : decide ((0 : Int) < (k : Int)) = false := by simp [hk0]
          have g0' : (k : Int) ≤ 0 := by omega
          have HN : Hid ((∀ i, i < k + 1 → 1 ≤ zs.getD i 0 ∧ zs.getD i 0 ≤ 8) ∧ ∀ i, i + 1 < k + 1 → -1 ≤ zs.getD (i + 1) 0 - zs.getD i 0 ∧ zs.getD (i + 1) 0 - zs.getD i 0 ≤ 1) :=
            ⟨fun i hi => by rw [show i = k by omega, ← hz]; exact ⟨z1, z2⟩, fun i hi => by omega⟩
          clear hk0 hcs hz
          go_wp2_with (go_at_call 75; refine (isBell_any _ _ _).mono ?_; rintro e w' ⟨rfl, rfl⟩)
          go_round
          case rel => exact ⟨k + 1, by omega, by go_num, HN.out⟩
          case measure => (simp [intOf]; omega)
        · have g0 : decide ((0 : Int) < (k : Int)) = true := by simp; omega
          have g0' : 0 < (k : Int) := by omega
          have hcp := hcs (k - 1) (by omega)
          obtain ⟨y, hy⟩ : ∃ y, y = zs.getD (k - 1) 0 := ⟨_, rfl⟩
          rw [← hy] at hcp
          have hyb : 1 ≤ y ∧ y ≤ 8 := by rw [hy]; exact HT.out.1 (k - 1) (by omega)
          obtain ⟨y1, y2⟩ := hyb
          have j1 : (0 : Int) ≤ (k : Int) - 1 := by omega
          by_cases hd : -1 ≤ z - y ∧ z - y ≤ 1
          · have d1 : z - y ≤ 1 := hd.2
            have d2 : y - z ≤ 1 := by omega
            have HN : Hid ((∀ i, i < k + 1 → 1 ≤ zs.getD i 0 ∧ zs.getD i 0 ≤ 8) ∧ ∀ i, i + 1 < k + 1 → -1 ≤ zs.getD (i + 1) 0 - zs.getD i 0 ∧ zs.getD (i + 1) 0 - zs.getD i 0 ≤ 1) := by
              refine ⟨fun i hi => ?_, fun i hi => ?_⟩
              · by_cases e : i = k
                · rw [e, ← hz]; exact ⟨z1, z2⟩
                · exact HT.out.1 i (by omega)
              · by_cases e : i + 1 = k
                · rw [e, ← hz, show i = k - 1 by omega, ← hy]; exact hd
                · exact HT.out.2 i (by omega)
            clear hk0 hcs hz hy hd
            go_wp2_with (go_at_call 75; refine (isBell_any _ _ _).mono ?_; rintro e w' ⟨rfl, rfl⟩)
            go_round
            case rel => exact ⟨k + 1, by omega, by go_num, HN.out⟩
            case measure => (simp [intOf]; omega)
          · have E : Hid (pathB zs = false) := cb_false fun h => hd (by
              have hl := Hl.out
              have h1 := h.2.2 (k - 1) (by omega)
              rw [show k - 1 + 1 = k by omega, ← hz, ← hy] at h1
              exact h1)
            rcases (show 1 < z - y ∨ (z - y ≤ 1 ∧ 1 < y - z) by omega) with h | ⟨h, h'⟩
            all_goals
              clear hk0 hcs hz hy hd
              go_wp2_with (go_at_call 75; refine (isBell_any _ _ _).mono ?_; rintro e w' ⟨rfl, rfl⟩)
              go_ret
              exact ⟨ret_b E.out, rfl⟩
      · have hb : inB z 1 8 = false := inB_false (by omega)
        have E : Hid (pathB zs = false) := cb_false fun h => hbell (by rw [hz]; exact h.2.1 k (by have := Hl.out; omega))
        clear hbell hcs hz
        go_wp2_with (go_at_call 75; refine (isBell_any _ _ _).mono ?_; rintro e w' ⟨rfl, rfl⟩)
        go_ret
        exact ⟨ret_b E.out, rfl⟩
    · have E : Hid (pathB zs = true) := cb_true ⟨by have := Hl.out; omega, fun i hi => HT.out.1 i (by have := Hl.out; omega), fun i hi => HT.out.2 i (by have := Hl.out; omega)⟩
      go_wp2
      go_ret
      exact ⟨ret_b E.out, rfl⟩
/-- the numbers below i that p picks -/
def selI (p : Nat → Bool) (i : Nat) : List Int := ((List.range i).filter p).map fun (j : Nat) => (j : Int)
theorem selI_succ (p : Nat → Bool) (i : Nat) : selI p (i + 1) = selI p i ++ if p i then [(i : Int)] else [] := by
  unfold selI
  rw [List.range_succ, List.filter_append, List.map_append]
  cases h : p i <;> simp [h]
theorem selI_stop {p : Nat → Bool} {i : Nat} : ∀ d, (∀ j, i ≤ j → p j = false) → selI p (i + d) = selI p i
  | 0, _ => rfl
  | d + 1, h => by rw [← Nat.add_assoc, selI_succ, h _ (by omega), selI_stop d h]; simp
theorem selI_len (p : Nat → Bool) (i : Nat) : (selI p i).length ≤ i := by
  unfold selI
  rw [List.length_map]
  exact Nat.le_trans (List.length_filter_le _ _) (by simp)
end Go.Proofs.Ytllbakbhdfoadaa
