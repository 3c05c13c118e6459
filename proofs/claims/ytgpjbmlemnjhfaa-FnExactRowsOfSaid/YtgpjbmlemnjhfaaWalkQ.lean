/- The walks of the check of a path. -/
import Derived.Test.YtgpjbmlemnjhfaaWalkI
import Derived.Test.YtgpjbmlemnjhfaaWalkA
import Derived.Test.YtgpjbmlemnjhfaaKit4
import Derived.Test.YtgpjbmlemnjhfaaPlain3
namespace Go.Proofs.Ytgpjbmlemnjhfaa
open Go.RowKit
set_option linter.unusedVariables false

def PathOK (zs : List Int) : Prop := zs.length ≤ 800 ∧ (∀ i, i < zs.length → 1 ≤ zs.getD i 0 ∧ zs.getD i 0 ≤ 8) ∧ ∀ i, i + 1 < zs.length → -1 ≤ zs.getD (i + 1) 0 - zs.getD i 0 ∧ zs.getD (i + 1) 0 - zs.getD i 0 ≤ 1
noncomputable def pathB (zs : List Int) : Bool := cb (PathOK zs)
theorem Rd.intC {w : World} {A : Option Addr} {n : Nat} {zs : List Int} (h : Rd w A n (intsV zs)) {k : Nat} (hk : k < n) :
    ∃ b off, A = some ⟨b, off, none⟩ ∧ b < w.heap.size ∧ ∀ j, j < n → w.cell? ⟨b, off + j, none⟩ = some (.int .i64 (zs.getD j 0)) := by
  obtain ⟨b, off, rfl, hb, _⟩ := h.int hk
  refine ⟨b, off, rfl, hb, fun j hj => ?_⟩
  obtain ⟨b', off', e, _, hc⟩ := h.int hj
  injection e with e; injection e with e1 e2; subst e1 e2
  have := h.ilen
  rw [hc]; simp [List.getElem?_eq_getElem (show j < zs.length by omega)]
set_option maxRecDepth 100000 in
set_option maxHeartbeats 1000000 in
theorem l1All_any (A : Option Addr) (n c : Nat) (zs : List Int) (lo hi : Int) (w : World) (hr : Rd w A n (intsV zs)) :
    Calls Try.prog 61 #[.slice A n c, .int .i64 lo, .int .i64 hi] w fun e w' => e = .returned (.bool (cb (∀ i, i < zs.length → lo ≤ zs.getD i 0 ∧ zs.getD i 0 ≤ hi))) ∧ w = w' := by
  have hn := hr.lenB
  have Hr := Lib.hid hr
  have Hl := Lib.hid hr.ilen
  clear hr
  go_enter Try.func61, Try.ntmps61
  go_wp2
  go_loop [11] (fun i => ∃ k : Nat, k ≤ n ∧ i = .int .i64 k ∧ Hid (∀ i, i < k → lo ≤ zs.getD i 0 ∧ zs.getD i 0 ≤ hi)) (fun i => n - (intOf i).toNat)
  case atStart => exact ⟨0, by omega, rfl, fun i hi => by omega⟩
  case round =>
    obtain ⟨k, hk, rfl, HT⟩ := hrel
    by_cases hlt : k < n
    · obtain ⟨b, off, rfl, _, hcs⟩ := Hr.out.intC hlt
      have hc := hcs k hlt
      obtain ⟨z, hz⟩ : ∃ z, z = zs.getD k 0 := ⟨_, rfl⟩
      rw [← hz] at hc
      have HZ := Lib.hid hz
      clear hcs hz
      have i1 : (k : Int) < (n : Int) := by omega
      by_cases hin : lo ≤ z ∧ z ≤ hi
      · have hb : inB z lo hi = true := inB_true hin.1 hin.2
        have HN : Hid (∀ i, i < k + 1 → lo ≤ zs.getD i 0 ∧ zs.getD i 0 ≤ hi) := by
          intro i hi'
          by_cases e : i = k
          · subst e; rw [← HZ.out]; exact hin
          · exact HT.out i (by omega)
        clear hin
        go_wp2_with (go_at_call 60; refine (l1In_any _ _ _ _).mono ?_; rintro e w' ⟨rfl, rfl⟩)
        go_round
        case rel => exact ⟨k + 1, by omega, by go_num, HN.out⟩
        case measure => (simp [intOf]; omega)
      · have hb : inB z lo hi = false := inB_false (by omega)
        have E : Hid (cb (∀ i, i < zs.length → lo ≤ zs.getD i 0 ∧ zs.getD i 0 ≤ hi) = false) := cb_false fun h => hin (by rw [HZ.out]; exact h k (by have := Hl.out; omega))
        clear hin
        go_wp2_with (go_at_call 60; refine (l1In_any _ _ _ _).mono ?_; rintro e w' ⟨rfl, rfl⟩)
        go_ret
        exact ⟨ret_b E.out, rfl⟩
    · have E : Hid (cb (∀ i, i < zs.length → lo ≤ zs.getD i 0 ∧ zs.getD i 0 ≤ hi) = true) := cb_true fun i hi' => HT.out i (by have := Hl.out; omega)
      go_wp2
      go_ret
      exact ⟨ret_b E.out, rfl⟩
set_option maxHeartbeats 400000 in
theorem isBell_any (n b : Int) (w : World) : Calls Try.prog 64 #[.int .i64 n, .int .i64 b] w fun e w' => e = .returned (.bool (inB b 1 n)) ∧ w = w' := by
  by_cases h1 : 1 ≤ b
  · by_cases h2 : b ≤ n
    · have e : inB b 1 n = true := by simp [inB, h1, h2]
      go_enter Try.func64, Try.ntmps64
      go_wp2
      go_ret
      exact ⟨by simp [e], rfl⟩
    · have e : inB b 1 n = false := by simp [inB, h2]
      go_enter Try.func64, Try.ntmps64
      go_wp2
      go_ret
      exact ⟨by simp [e], rfl⟩
  · have e : inB b 1 n = false := by simp [inB, h1]
    go_enter Try.func64, Try.ntmps64
    go_wp2
    go_ret
    exact ⟨by simp [e], rfl⟩
/-- the numbers below i that p picks -/
def selI (p : Nat → Bool) (i : Nat) : List Int := ((List.range i).filter p).map fun (j : Nat) => (j : Int)
theorem selI_succ (p : Nat → Bool) (i : Nat) : selI p (i + 1) = selI p i ++ if p i then [(i : Int)] else [] := by
  unfold selI
  rw [List.range_succ, List.filter_append, List.map_append]
  cases h : p i <;> simp [h]
theorem selI_stop {p : Nat → Bool} {i : Nat} : ∀ d, (∀ j, i ≤ j → p j = false) → selI p (i + d) = selI p i
  | 0, _ => rfl
  | d + 1, h => by rw [← Nat.add_assoc, selI_succ, h _ (by omega), selI_stop d h]; simp
theorem selI_len (p : Nat → Bool) (i : Nat) : (selI p i).length ≤ i := by
  unfold selI
  rw [List.length_map]
  exact Nat.le_trans (List.length_filter_le _ _) (by simp)
end Go.Proofs.Ytgpjbmlemnjhfaa
