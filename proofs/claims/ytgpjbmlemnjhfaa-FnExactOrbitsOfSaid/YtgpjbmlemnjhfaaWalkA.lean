/- The walks of the small functions on rows: what each returns, at every string. -/
import Derived.Test.YtgpjbmlemnjhfaaProg
import Derived.Test.YtgpjbmlemnjhfaaKit1
import Derived.WalkKit
import Derived.WalkSpells
import Derived.WalkLawsBesides
import Derived.Deep.QuietTactic
import Derived.BigQuiet
import Derived.Lib.Hide
namespace Go.Proofs.Ytgpjbmlemnjhfaa
open Go.RowKit
set_option linter.unusedVariables false

def inB (n a b : Int) : Bool := decide (a ≤ n ∧ n ≤ b)
theorem inB_true {n a b : Int} (h1 : a ≤ n) (h2 : n ≤ b) : inB n a b = true := by simp [inB, h1, h2]
theorem inB_false {n a b : Int} (h : n < a ∨ b < n) : inB n a b = false := by simp only [inB, decide_eq_false_iff_not]; omega

set_option maxRecDepth 100000 in
set_option maxHeartbeats 400000 in
theorem l1In_any (n a b : Int) (w : World) : Calls Try.prog 60 #[.int .i64 n, .int .i64 a, .int .i64 b] w fun e w' => e = .returned (.bool (inB n a b)) ∧ w = w' := by
  by_cases h1 : a ≤ n
  · by_cases h2 : n ≤ b
    · have e : inB n a b = true := by simp [inB, h1, h2]
      go_enter Try.func60, Try.ntmps60
      go_wp2
      go_ret
      exact ⟨by simp [e], rfl⟩
    · have e : inB n a b = false := by simp [inB, h2]
      go_enter Try.func60, Try.ntmps60
      go_wp2
      go_ret
      exact ⟨by simp, rfl⟩
  · have e : inB n a b = false := by simp [inB, h1]
    go_enter Try.func60, Try.ntmps60
    go_wp2
    go_ret
    exact ⟨by simp, rfl⟩
set_option maxRecDepth 100000 in
set_option maxHeartbeats 400000 in
theorem isStage_any (n : Int) (w : World) : Calls Try.prog 63 #[.int .i64 n] w fun e w' => e = .returned (.bool (inB n 3 8)) ∧ w = w' := by
  by_cases h1 : 3 ≤ n
  · by_cases h2 : n ≤ 8
    · have e : inB n 3 8 = true := by simp [inB, h1, h2]
      go_enter Try.func63, Try.ntmps63
      go_wp2
      go_ret
      exact ⟨by simp [e], rfl⟩
    · have e : inB n 3 8 = false := by simp [inB, h2]
      go_enter Try.func63, Try.ntmps63
      go_wp2
      go_ret
      exact ⟨by simp, rfl⟩
  · have e : inB n 3 8 = false := by simp [inB, h1]
    go_enter Try.func63, Try.ntmps63
    go_wp2
    go_ret
    exact ⟨by simp, rfl⟩
theorem rounds_bytes (n : Nat) (h : n ≤ 8) : ByteArray.extract { data := #[49, 50, 51, 52, 53, 54, 55, 56] } 0 n = mkS (roundsL n) := by
  obtain rfl | rfl | rfl | rfl | rfl | rfl | rfl | rfl | rfl : n = 0 ∨ n = 1 ∨ n = 2 ∨ n = 3 ∨ n = 4 ∨ n = 5 ∨ n = 6 ∨ n = 7 ∨ n = 8 := by omega
  all_goals decide
theorem rounds_any (n : Int) (w : World) (h0 : 0 ≤ n) (h : n ≤ 8) : Calls Try.prog 86 #[.int .i64 n] w fun e w' => e = .returned (.string (mkS (roundsL n.toNat))) ∧ w = w' := by
  go_enter Try.func86, Try.ntmps86
  go_wp2
  go_ret
  exact ⟨by simp [rounds_bytes _ (show n.toNat ≤ 8 by omega)], rfl⟩
theorem l1Rounds_any (n : Int) (w : World) (h0 : 0 ≤ n) (h : n ≤ 8) : Calls Try.prog 93 #[.int .i64 n] w fun e w' => e = .returned (.string (mkS (roundsL n.toNat))) ∧ w = w' := by
  go_enter Try.func93, Try.ntmps93
  go_wp2
  go_ret
  exact ⟨by simp [rounds_bytes _ (show n.toNat ≤ 8 by omega)], rfl⟩
set_option maxRecDepth 100000 in
set_option maxHeartbeats 400000 in
theorem GoodRow_any (s : ByteArray) (w : World) (hm : s.size ≤ maxLen) : Calls Try.prog 43 #[.string s] w fun e w' => e = .returned (.bool (rowB s)) ∧ w = w' := by
  unfold maxLen at hm
  by_cases hs : 3 ≤ s.size ∧ s.size ≤ 8
  · obtain ⟨h3, h8⟩ := hs
    have hin : inB (s.size : Int) 3 8 = true := inB_true (by omega) (by omega)
    go_enter Try.func43, Try.ntmps43
    go_wp2_with (go_at_call 63; refine (isStage_any _ _).mono ?_; rintro e w' ⟨rfl, rfl⟩)
    go_loop [3, 12] (fun m i => ∃ k : Nat, k ≤ s.size ∧ i = .int .i64 k ∧ m = .int .i64 (maskN ((bs s).take k) : Nat) ∧ OkTo (bs s) s.size k) (fun _ i => s.size - (intOf i).toNat)
    case atStart => exact ⟨0, by omega, rfl, rfl, OkTo.zero _ _⟩
    case round =>
      obtain ⟨k, hk, rfl, rfl, hok⟩ := hrel
      have Hok := Lib.hid hok
      clear hok
      by_cases hlt : k < s.size
      · by_cases hb : 49 ≤ s[k].toNat ∧ s[k].toNat ≤ 48 + s.size
        · obtain ⟨c1, c2⟩ := hb
          have b1 : 49 ≤ (s[k].toNat : Int) := by omega
          have b2 : (s[k].toNat : Int) ≤ 48 + (s.size : Int) := by omega
          have hand := mask_and (Hok.out.dig h8) (s[k].toNat - 49)
          rw [maskN_bit, show s[k].toNat - 49 = dig s[k] from rfl, dig_any (fun x hx => (Hok.out.1 x hx).1) c1] at hand
          by_cases hin2 : s[k] ∈ (bs s).take k
          · rw [decide_eq_true hin2] at hand
            have E := Lib.hid (row_twice hlt hin2)
            clear hin2
            unfold dig at hand
            go_wp2
            go_ret
            exact ⟨ret_b E.out, rfl⟩
          · rw [decide_eq_false hin2] at hand
            have hor := Lib.hid (mask_or (Hok.out.dig h8) (d := dig s[k]) (by unfold dig; omega))
            have HN := Lib.hid (Hok.out.succ hlt c1 c2 hin2)
            have HT := Lib.hid (take_snoc s k hlt)
            clear hin2
            unfold dig at hand
            go_wp2
            go_round
            case rel => exact ⟨k + 1, by omega, by go_num, by rw [HT.out, maskN_snoc, ← hor.out]; rfl, HN.out⟩
            case measure => simp [intOf]; omega
        · have E := Lib.hid (row_lo hlt (by omega))
          have b0 : (s[k].toNat : Int) ≤ 255 := by have := UInt8.toNat_lt s[k]; omega
          by_cases hb1 : s[k].toNat < 49
          · have b1 : (s[k].toNat : Int) < 49 := by omega
            clear hb
            go_wp2
            go_ret
            exact ⟨ret_b E.out, rfl⟩
          · have b1 : 49 ≤ (s[k].toNat : Int) := by omega
            have b2 : 48 + (s.size : Int) < (s[k].toNat : Int) := by omega
            clear hb hb1
            go_wp2
            go_ret
            exact ⟨ret_b E.out, rfl⟩
      · have E : Hid (rowB s = true) := (show OkTo (bs s) s.size s.size by have := Hok.out; rwa [show k = s.size by omega] at this).row h3 h8
        go_wp2
        go_ret
        exact ⟨ret_b E.out, rfl⟩
  · have hin : inB (s.size : Int) 3 8 = false := inB_false (by omega)
    have E := Lib.hid (row_len (s := s) (by omega))
    clear hs
    go_enter Try.func43, Try.ntmps43
    go_wp2_with (go_at_call 63; refine (isStage_any _ _).mono ?_; rintro e w' ⟨rfl, rfl⟩)
    go_ret
    exact ⟨ret_b E.out, rfl⟩

set_option maxRecDepth 100000 in
set_option maxHeartbeats 400000 in
theorem l1Row_any (s : ByteArray) (w : World) (hm : s.size ≤ maxLen) : Calls Try.prog 40 #[.string s] w fun e w' => e = .returned (.bool (rowB s)) ∧ ∃ n, w' = w.drewN n := by
  unfold maxLen at hm
  by_cases hs : 3 ≤ s.size ∧ s.size ≤ 8
  · obtain ⟨h3, h8⟩ := hs
    have hin : inB (s.size : Int) 3 8 = true := inB_true (by omega) (by omega)
    go_enter Try.func40, Try.ntmps40
    go_wp2_with (go_at_call 60; refine (l1In_any _ _ _ _).mono ?_; rintro e w' ⟨rfl, rfl⟩)
    go_loopw [3] (fun i wr => ∃ k n : Nat, k ≤ s.size ∧ i = .int .i64 k ∧ OkTo (bs s) s.size k ∧ wr = w.drewN n) (fun i _ => s.size - (intOf i).toNat)
    case atStart => exact ⟨0, 0, by omega, rfl, OkTo.zero _ _, rfl⟩
    case round =>
      obtain ⟨k, n, hk, rfl, hok, rfl⟩ := hrel
      have Hok := Lib.hid hok
      clear hok
      by_cases hlt : k < s.size
      · by_cases hb : 49 ≤ s[k].toNat ∧ s[k].toNat ≤ 48 + s.size
        · obtain ⟨c1, c2⟩ := hb
          have b1 : 49 ≤ (s[k].toNat : Int) := by omega
          have b2 : (s[k].toNat : Int) ≤ 48 + (s.size : Int) := by omega
          go_wp2
          go_loopw [4] (fun j wr => ∃ q n : Nat, q ≤ k ∧ j = .int .i64 q ∧ s[k] ∉ (bs s).take q ∧ wr = w.drewN n) (fun j _ => k - (intOf j).toNat)
          case atStart => exact ⟨0, n, by omega, rfl, by simp, rfl⟩
          case round =>
            obtain ⟨q, n2, hq, rfl, hnot, rfl⟩ := hrel
            have Hnot := Lib.hid hnot
            clear hnot
            by_cases hqk : q < k
            · have hqs : q < s.size := by omega
              have i1 : (0 : Int) ≤ (q : Int) := by omega
              have i2 : (q : Int) < (s.size : Int) := by omega
              have i3 : (0 : Int) ≤ (k : Int) := by omega
              have i4 : (k : Int) < (s.size : Int) := by omega
              by_cases heq : s[q] = s[k]
              · have E := Lib.hid (row_twice hlt (by rw [← heq]; exact mem_take_bs s q k hqk hqs))
                have heq' : ((s[q].toNat : Int) == (s[k].toNat : Int)) = true := by rw [heq]; simp
                clear heq
                go_wp2
                go_quiet (fail)
                go_wp2
                go_ret
                exact ⟨ret_b E.out, _, World.drewN_drewN _ _ _⟩
              · have HN : Hid (s[k] ∉ (bs s).take (q + 1)) := by
                  show s[k] ∉ (bs s).take (q + 1)
                  rw [take_snoc s q hqs]; simp only [List.mem_append, List.mem_singleton, not_or]
                  exact ⟨Hnot.out, fun e => heq e.symm⟩
                have heq' : ((s[q].toNat : Int) == (s[k].toNat : Int)) = false := by
                  rw [beq_eq_false_iff_ne]; intro e; exact heq (u8_eq (by omega))
                clear heq
                go_wp2
                go_quiet (fail)
                go_wp2
                go_roundw
                case rel => exact ⟨q + 1, _, by omega, by go_num, HN.out, rfl⟩
                case measure => simp [intOf]; omega
            · have HS := Lib.hid (Hok.out.succ hlt c1 c2 (by have := Hnot.out; rwa [show q = k by omega] at this))
              go_wp2
              go_roundw
              case rel => exact ⟨k + 1, _, by omega, by go_num, HS.out, rfl⟩
              case measure => simp [intOf]; omega
        · have E := Lib.hid (row_lo hlt (by omega))
          have b0 : (s[k].toNat : Int) ≤ 255 := by have := UInt8.toNat_lt s[k]; omega
          by_cases hb1 : s[k].toNat < 49
          · have b1 : (s[k].toNat : Int) < 49 := by omega
            clear hb
            go_wp2
            go_ret
            exact ⟨ret_b E.out, _, rfl⟩
          · have b1 : 49 ≤ (s[k].toNat : Int) := by omega
            have b2 : 48 + (s.size : Int) < (s[k].toNat : Int) := by omega
            clear hb hb1
            go_wp2
            go_ret
            exact ⟨ret_b E.out, _, rfl⟩
      · have E : Hid (rowB s = true) := (show OkTo (bs s) s.size s.size by have := Hok.out; rwa [show k = s.size by omega] at this).row h3 h8
        go_wp2
        go_ret
        exact ⟨ret_b E.out, _, rfl⟩
  · have hin : inB (s.size : Int) 3 8 = false := inB_false (by omega)
    have E := Lib.hid (row_len (s := s) (by omega))
    clear hs
    go_enter Try.func40, Try.ntmps40
    go_wp2_with (go_at_call 60; refine (l1In_any _ _ _ _).mono ?_; rintro e w' ⟨rfl, rfl⟩)
    go_ret
    exact ⟨ret_b E.out, 0, rfl⟩

end Go.Proofs.Ytgpjbmlemnjhfaa
