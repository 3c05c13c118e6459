/- The walks of the rows of a lead and of the lead head. -/
import Derived.Test.YtbmabfgnmafooaaSpApply
import Derived.Test.YtbmabfgnmafooaaWalkO
import Derived.Test.YtbmabfgnmafooaaOpenM
namespace Go.Proofs.Ytbmabfgnmafooaa
open Go.RowKit
set_option linter.unusedVariables false

noncomputable def rowAt (r : ByteArray) (cs : List ByteArray) (k : Nat) : ByteArray := (cs.take k).foldl apS r
noncomputable def rowsTo (r : ByteArray) (cs : List ByteArray) (k : Nat) : List ByteArray := (List.range k).map (rowAt r cs)
theorem rowsTo_succ (r : ByteArray) (cs : List ByteArray) (k : Nat) : rowsTo r cs (k + 1) = rowsTo r cs k ++ [rowAt r cs k] := by
  unfold rowsTo; rw [List.range_succ, List.map_append]; rfl
theorem rowAt_succ (r : ByteArray) {cs : List ByteArray} {k : Nat} (h : k < cs.length) : rowAt r cs (k + 1) = apS (rowAt r cs k) cs[k] := by
  unfold rowAt; rw [List.take_succ_eq_append_getElem h]; simp only [List.foldl_append, List.foldl_cons, List.foldl_nil]
theorem apS_ok {r c : ByteArray} (hr : IsRow (bs r)) (hc : chB r.size c = true) : IsRow (bs (apS r c)) ∧ (apS r c).size = r.size := by
  have h1 := crS_row hc
  have h2 := crS_size r.size c
  unfold apS
  refine ⟨by rw [bs_mkS]; exact isRow_times hr h1 (by rw [size_bs, size_bs, h2]; omega), ?_⟩
  rw [size_mkS, timesL_length, size_bs, h2]; omega
theorem rowAt_ok {r : ByteArray} {cs : List ByteArray} (hr : IsRow (bs r)) (hc : ∀ c ∈ cs, chB r.size c = true) : ∀ k, k ≤ cs.length → IsRow (bs (rowAt r cs k)) ∧ (rowAt r cs k).size = r.size
  | 0, _ => ⟨by simpa [rowAt] using hr, by simp [rowAt]⟩
  | k + 1, h => by
    have ih := rowAt_ok hr hc k (by omega)
    rw [rowAt_succ r (show k < cs.length by omega)]
    have := apS_ok (c := cs[k]) ih.1 (by rw [ih.2]; exact hc _ (List.getElem_mem _))
    exact ⟨this.1, this.2.trans ih.2⟩
/-- what a call that hands back a new slice and a string leaves -/
def RetST (E : TypeId) (xs : List Value) (t : ByteArray) (w : World) (e : Ending) (w' : World) : Prop :=
  ∃ A n c, e = .returned (.tuple #[.slice A n c, .string t]) ∧ Own w' E w.heap.size w'.heap.size A n c xs ∧ Below w.heap.size w w'
theorem ret_slt {A : Option Addr} {n c : Nat} {b v : ByteArray} (h : b = v) : Ending.returned (.tuple #[.slice A n c, .string v]) = .returned (.tuple #[.slice A n c, .string b]) := by rw [h]
set_option maxRecDepth 100000 in
set_option maxHeartbeats 2000000 in
theorem l4Lead_any (A : Option Addr) (n c : Nat) (ss : List ByteArray) (r : ByteArray) (W : World) (hn : n ≤ 40) (hr : Rd W A n (strsV ss)) (hrow : IsRow (bs r)) (hc : ∀ s ∈ ss, chB r.size s = true) :
    Calls Try.prog 70 #[.slice A n c, .string r] W (RetST 9 (strsV (rowsTo r ss n)) (rowAt r ss n) W) := by
  have Hr := Lib.hid hr
  have Hl := Lib.hid hr.slen
  have HK := Lib.hid (rowAt_ok hrow hc)
  have HC := Lib.hid hc
  clear hr hc hrow
  go_enter Try.func70, Try.ntmps70
  go_wp2
  go_loopw [6, 7, 13] (fun l t i wr => ∃ (k : Nat) (t0 : ByteArray) (A2 : Option Addr) (c2 : Nat), i = .int .i64 k ∧ l = .slice A2 k c2 ∧ t = .string t0 ∧ k ≤ n ∧ Hid (t0 = rowAt r ss k) ∧ Hid (Own wr 9 W.heap.size wr.heap.size A2 k c2 (strsV (rowsTo r ss k))) ∧ Hid (Below W.heap.size W wr)) (fun _ _ i _ => n - (intOf i).toNat)
  case atStart => exact ⟨0, r, none, 0, rfl, rfl, rfl, by omega, rfl, Own.nil _ _ _ _, Below.refl _ _⟩
  case round =>
    obtain ⟨k, t0, A2, c2, rfl, rfl, rfl, hk, Ht, HO, HB⟩ := hrel
    by_cases hlt : k < n
    · obtain ⟨b, off, rfl, _, hcl⟩ := (Hr.out.below HB.out).str hlt
      have hkl : k < ss.length := by have := Hl.out; omega
      have HT := Lib.hid (rowAt_succ r hkl)
      have hok := HK.out k (by omega)
      have hch := HC.out _ (List.getElem_mem hkl)
      obtain ⟨s, hs⟩ : ∃ s, s = ss[k] := ⟨_, rfl⟩
      rw [← hs] at hcl HT hch
      rw [← Ht.out] at hok HT
      rw [← hok.2] at hch
      have HAp : Hid (∀ W, Calls Try.prog 92 #[.string t0, .string s] W fun e w' => e = .returned (.string (apS t0 s)) ∧ Below W.heap.size W w') := fun W => l2Apply_any t0 s W hok.1 hch
      obtain ⟨u, hu⟩ : ∃ u, u = apS t0 s := ⟨_, rfl⟩
      rw [← hu] at HT HAp
      have HS : Hid (rowsTo r ss (k + 1) = rowsTo r ss k ++ [t0]) := by unfold Hid; rw [rowsTo_succ, ← Ht.out]
      have i1 : (k : Int) < (n : Int) := by omega
      clear hs hu hok hch
      go_wp2_with first
        | (at_builtin; refine wpList_append1 wr rfl (.tmp 17) (.tmp 19) 22 rfl 9 (.string ByteArray.empty) 16 Try.underlying22 info_str rfl W.heap.size A2 k c2 _ (.string t0) rfl rfl rfl HO.out (by omega) (by omega) HB.out.size ?_; intro A3 c3 w2 ho2 hw2 hsz2 hat2)
        | (go_at_call 92; refine (HAp.out _).mono ?_; rintro e w3 ⟨rfl, hb3⟩)
      have B2 : Below W.heap.size W w2 := HB.out.trans (hw2.below (Nat.le_refl _) HB.out.size)
      have HO3 : Hid (Own w3 9 W.heap.size w3.heap.size A3 (k + 1) c3 (strsV (rowsTo r ss (k + 1)))) := by
        refine ((ho2.congr ?_).below hb3).mono (Nat.le_refl _) hb3.size
        rw [HS.out, strsV_app (rowsTo r ss k), strsV_one]
      have HB3 : Hid (Below W.heap.size W w3) := B2.trans (hb3.mono B2.size)
      go_roundw
      case rel => exact ⟨k + 1, u, A3, c3, by go_num, rfl, rfl, by omega, HT.out.symm, HO3.out, HB3.out⟩
      case measure => (simp [intOf] <;> omega)
    · obtain rfl : k = n := by omega
      go_wp2
      go_ret2
      exact ⟨_, _, _, ret_slt Ht.out.symm, HO.out, HB.out⟩
set_option maxRecDepth 100000 in
set_option maxHeartbeats 2000000 in
theorem rowsUnder_any (A : Option Addr) (n c : Nat) (ss : List ByteArray) (r : ByteArray) (W : World) (hn : n ≤ 40) (hr : Rd W A n (strsV ss)) (hrow : IsRow (bs r)) (hc : ∀ s ∈ ss, chB r.size s = true) :
    Calls Try.prog 74 #[.string r, .slice A n c] W (RetS 9 (strsV (rowsTo r ss (n + 1))) W) := by
  have Hr := Lib.hid hr
  have Hl := Lib.hid hr.slen
  have HK := Lib.hid (rowAt_ok hrow hc)
  have HC := Lib.hid hc
  clear hr hc hrow
  go_enter Try.func74, Try.ntmps74
  go_wp2
  go_loopw [0, 5, 12] (fun t l i wr => ∃ (k : Nat) (t0 : ByteArray) (A2 : Option Addr) (c2 : Nat), i = .int .i64 k ∧ l = .slice A2 (k + 1) c2 ∧ t = .string t0 ∧ k ≤ n ∧ Hid (t0 = rowAt r ss k) ∧ Hid (Own wr 9 W.heap.size wr.heap.size A2 (k + 1) c2 (strsV (rowsTo r ss (k + 1)))) ∧ Hid (Below W.heap.size W wr)) (fun _ _ i _ => n - (intOf i).toNat)
  case atStart => exact ⟨0, r, _, _, rfl, rfl, rfl, by omega, rfl, own_one W 9 (.string r), below_alloc _ _⟩
  case round =>
    obtain ⟨k, t0, A2, c2, rfl, rfl, rfl, hk, Ht, HO, HB⟩ := hrel
    by_cases hlt : k < n
    · obtain ⟨b, off, rfl, _, hcl⟩ := (Hr.out.below HB.out).str hlt
      have hkl : k < ss.length := by have := Hl.out; omega
      have HT := Lib.hid (rowAt_succ r hkl)
      have hok := HK.out k (by omega)
      have hch := HC.out _ (List.getElem_mem hkl)
      obtain ⟨s, hs⟩ : ∃ s, s = ss[k] := ⟨_, rfl⟩
      rw [← hs] at hcl HT hch
      rw [← Ht.out] at hok HT
      rw [← hok.2] at hch
      have HAp : Hid (∀ W, Calls Try.prog 95 #[.string t0, .string s] W fun e w' => e = .returned (.string (apS t0 s)) ∧ Below W.heap.size W w') := fun W => apply_any t0 s W hok.1 hch
      obtain ⟨u, hu⟩ : ∃ u, u = apS t0 s := ⟨_, rfl⟩
      rw [← hu] at HT HAp
      have HS : Hid (rowsTo r ss (k + 1 + 1) = rowsTo r ss (k + 1) ++ [u]) := by unfold Hid; rw [rowsTo_succ r ss (k + 1), HT.out]
      have i1 : (k : Int) < (n : Int) := by omega
      clear hs hu hok hch
      go_wp2_with fail
      refine (HAp.out _).mono ?_
      rintro e w2 ⟨rfl, hb2⟩
      have HO2 : Hid (Own w2 9 W.heap.size w2.heap.size A2 (k + 1) c2 (strsV (rowsTo r ss (k + 1)))) := (HO.out.below hb2).mono (Nat.le_refl _) hb2.size
      have B2 : Below W.heap.size W w2 := HB.out.trans (hb2.mono HB.out.size)
      go_wp2_with (at_builtin; refine wpList_append1 w2 rfl (.tmp 19) (.tmp 21) 22 rfl 9 (.string ByteArray.empty) 16 Try.underlying22 info_str rfl W.heap.size A2 (k + 1) c2 _ (.string u) rfl rfl rfl HO2.out (by omega) (by omega) B2.size ?_; intro A3 c3 w3 ho3 hw3 hsz3 hat3)
      have HO3 : Hid (Own w3 9 W.heap.size w3.heap.size A3 (k + 1 + 1) c3 (strsV (rowsTo r ss (k + 1 + 1)))) := by
        refine ho3.congr ?_
        rw [HS.out, strsV_app (rowsTo r ss (k + 1)), strsV_one]
      have HB3 : Hid (Below W.heap.size W w3) := B2.trans (hw3.below (Nat.le_refl _) B2.size)
      go_roundw
      case rel => exact ⟨k + 1, u, A3, c3, by go_num, by first | rfl | (congr 1), rfl, by omega, HT.out.symm, HO3.out, HB3.out⟩
      case measure => (simp [intOf] <;> omega)
    · obtain rfl : k = n := by omega
      go_wp2
      go_ret
      exact ⟨_, _, _, rfl, HO.out, HB.out⟩
end Go.Proofs.Ytbmabfgnmafooaa
