/- All changes of a stage: the reference's small functions. -/
import Derived.Test.YtgpjbmlemnjhfaaPlainFr
import Derived.Test.YtgpjbmlemnjhfaaWalkM
import Derived.Test.YtgpjbmlemnjhfaaWalkS
namespace Go.Proofs.Ytgpjbmlemnjhfaa
open Go.RowKit
set_option linter.unusedVariables false

set_option maxRecDepth 100000 in
set_option maxHeartbeats 1000000 in
theorem l1Num_any (p : Nat) (W : World) (h : p < 10) :
    Calls Try.prog 92 #[.int .i64 p] W fun e w' => e = .returned (.string (mkS [UInt8.ofNat (48 + p)])) ∧ Below W.heap.size W w' := by
  have i1 : (p : Int) < 10 := by omega
  obtain ⟨t, hcv, ht, hz⟩ := one_byte (P := Try.prog) W 64 9 5 (48 + (p : Int)) (UInt8.ofNat (48 + p)) (by rw [UInt8.toNat_ofNat', Nat.mod_eq_of_lt (by omega)]; omega) Try.underlying64 Try.underlying5 Try.underlying9
  have HT : Hid (mkS [UInt8.ofNat (48 + p)] = t) := by unfold Hid; rw [← ht, mkS_bs]
  have HB : Hid (Below W.heap.size W (W.alloc (.cells #[.int .u8 (48 + (p : Int))] 5))) := below_alloc _ _
  clear ht hz
  go_enter Try.func92, Try.ntmps92
  go_wp2
  go_ret
  exact ⟨ret_s HT.out, HB.out⟩
set_option maxRecDepth 100000 in
set_option maxHeartbeats 1000000 in
theorem l2Of_any (A : Option Addr) (n c : Nat) (ps : List Nat) (W : World) (h9 : ∀ p ∈ ps, p < 10) (hn : n ≤ 10) (hr : Rd W A n (intsV (ps.map fun p : Nat => (p : Int)))) :
    Calls Try.prog 83 #[.slice A n c] W fun e w' => e = .returned (.string (mkS (txtL (ps.map fun p => UInt8.ofNat (48 + p))))) ∧ Below W.heap.size W w' := by
  have Hr := Lib.hid hr
  have hl : ps.length = n := by have := hr.1; simpa [intsV] using this
  have H9 := Lib.hid h9
  clear hr h9
  go_enter Try.func83, Try.ntmps83
  go_wp2
  go_loopw [3, 8] (fun s i wr => ∃ (k : Nat) (t : ByteArray), s = .string t ∧ i = .int .i64 (k : Int) ∧ k ≤ n ∧ Hid (bs t = (ps.take k).map fun p => UInt8.ofNat (48 + p)) ∧ t.size ≤ k ∧ Hid (Below W.heap.size W wr)) (fun _ i _ => ((n : Int) - intOf i).toNat)
  case atStart => exact ⟨0, _, rfl, rfl, Nat.zero_le _, rfl, Nat.le_refl _, Below.refl _ _⟩
  case round =>
    obtain ⟨k, t, rfl, rfl, hk, Ht, htz, HB⟩ := hrel
    by_cases hkn : k < n
    · have i1 : (k : Int) < (n : Int) := by omega
      have hkl : k < ps.length := by omega
      obtain ⟨x, hx⟩ : ∃ x, x = ps[k] := ⟨_, rfl⟩
      obtain ⟨h1, h2, h3⟩ := Hr.out.below HB.out
      rcases h3 with h3 | ⟨b, off, rfl, hb, hc⟩
      · omega
      have hcc : wr.cell? ⟨b, off + k, none⟩ = some (.int .i64 (x : Int)) := hc k _ (by simp [intsV, List.getElem?_eq_getElem hkl, hx])
      have hx9 : x < 10 := H9.out x (by rw [hx]; exact List.getElem_mem _)
      obtain ⟨d, hd⟩ : ∃ d, d = mkS [UInt8.ofNat (48 + x)] := ⟨_, rfl⟩
      have hdz : d.size = 1 := by rw [hd, size_mkS]; rfl
      have HN := Lib.hid (l1Num_any x wr hx9)
      rw [← hd] at HN
      have HT : Hid (bs (t ++ d) = (ps.take (k + 1)).map fun p => UInt8.ofNat (48 + p)) := by
        unfold Hid; rw [bs_append, Ht.out, hd, bs_mkS, List.take_succ_eq_append_getElem hkl, List.map_append, hx]; rfl
      have hz : (t ++ d).size ≤ k + 1 := by rw [← size_bs, HT.out]; simp; omega
      clear h1 h2 hc hx hl hd
      go_wp2_with (go_at_call 92; refine HN.out.mono ?_; rintro e w5 ⟨rfl, hb5⟩)
      have HB5 : Hid (Below W.heap.size W w5) := HB.out.trans (hb5.mono HB.out.size)
      clear hb5
      go_roundw
      case rel => exact ⟨k + 1, _, rfl, by go_num, by omega, HT.out, hz, HB5.out⟩
      case measure => (simp [intOf] <;> omega)
    · obtain rfl : k = n := by omega
      have HT : Hid (bs t = ps.map fun p => UInt8.ofNat (48 + p)) := by unfold Hid; rw [Ht.out, List.take_of_length_le (by omega)]
      clear hl
      by_cases hnil : (ps.map fun p => UInt8.ofNat (48 + p)) = []
      · have ht : t = { data := #[] } := bs_inj (HT.out.trans hnil)
        have E : Hid (mkS (txtL (ps.map fun p => UInt8.ofNat (48 + p))) = { data := #[45] }) := by unfold Hid; rw [hnil]; rfl
        subst ht
        clear hnil
        go_wp2
        go_ret
        exact ⟨ret_s E.out, HB.out⟩
      · have hne : t ≠ { data := #[] } := fun h => hnil (by rw [← HT.out, h]; rfl)
        have hne2 := ne_list hne
        have e0 : ({ data := #[] } : ByteArray).toList = [] := by kernel_rfl
        have hne4 : ¬ t.toList = [] := fun h => by rw [h, e0] at hne2; simp at hne2
        clear e0
        have hne5 : (t.toList == []) = false := by simpa using hne4
        have hne6 : t.toList.isEmpty = false := by simpa using hne4
        have E : Hid (mkS (txtL (ps.map fun p => UInt8.ofNat (48 + p))) = t) := by unfold Hid txtL; rw [if_neg hnil, ← HT.out, mkS_bs]
        clear hnil
        go_wp2
        go_ret
        exact ⟨ret_s E.out, HB.out⟩
end Go.Proofs.Ytgpjbmlemnjhfaa
