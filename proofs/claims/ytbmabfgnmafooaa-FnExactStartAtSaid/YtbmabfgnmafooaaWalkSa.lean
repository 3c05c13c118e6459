/- slices.Concat over owned memory: Grow of nothing, then appends. -/
import Derived.Test.YtbmabfgnmafooaaWalkTm
import Derived.Test.YtbmabfgnmafooaaWalkY
import Derived.Test.YtbmabfgnmafooaaKit5
import Derived.Test.YtbmabfgnmafooaaShelfg
namespace Go.Proofs.Ytbmabfgnmafooaa
open Go.RowKit Go.Sort
set_option linter.unusedVariables false

theorem grow_own (n : Nat) (W : World) (h1 : 1 ≤ n) (h2 : n ≤ 4194304) :
    Calls Try.prog 99 #[.slice none 0 0, .int .i64 n] W fun e w' => ∃ A c, e = .returned (.slice A 0 c) ∧ Own w' 9 W.heap.size w'.heap.size A 0 c [] ∧ Below W.heap.size W w' := by
  obtain ⟨i0, hi0, hz, hs, hb⟩ := info_parts info_str
  refine (Try.slices_Grow_string i0 _ hi0 hz (by omega) none 0 0 n [] W (by omega) (by omega) (by rw [hb]; omega) (by omega) (by simp) (fun _ => rfl) (fun a h => by cases h)).mono ?_
  rintro e w' ⟨rfl, rfl⟩
  have hge := grownCap_ge W (0 + n) 0 9
  have hle := grownCap_le_maxLen W (0 + n) 0 9 (by unfold maxLen; omega)
  refine ⟨_, _, rfl, ⟨⟨rfl, .inr ⟨W.heap.size, _, _, rfl, Nat.le_refl _, heap_last _ _ _ rfl, Nat.zero_le _, hle, ?_, by simp⟩⟩, fun g hg => ?_⟩, ?_⟩
  · have hc : (Value.string ByteArray.empty).cells.size = 1 := rfl
    simp only [Array.size_append, size_zeroCells, hc]
    have hge2 := grownCap_ge W n 0 9
    simp
    omega
  · injection hg with e; subst e; simp
  · exact (Below.refl _ W).drew.trans (below_alloc W.drew _)
set_option maxRecDepth 100000 in
set_option maxHeartbeats 1000000 in
theorem concat_any (g N : Nat) (SZ : Nat → Nat) (Lf : Nat → List ByteArray) (W : World) (hg : g < W.heap.size)
    (hst : ∀ j, j < N → ∃ Aj nj cj xs, W.cell? ⟨g, j, none⟩ = some (.slice Aj nj cj) ∧ Rd W Aj nj (strsV xs) ∧ SZ (j + 1) = SZ j + nj ∧ Lf (j + 1) = Lf j ++ xs)
    (h0 : SZ 0 = 0) (hL0 : Lf 0 = []) (hb : ∀ j, j ≤ N → SZ j ≤ 4194304) (h1 : 1 ≤ SZ N) (hN : N ≤ 1000) :
    Calls Try.prog 88 #[.slice (some ⟨g, 0, none⟩) N N] W (RetS 9 (strsV (Lf N)) W) := by
  have HST := Lib.hid hst
  have Hb := Lib.hid hb
  have H0 := Lib.hid h0
  have HL0 := Lib.hid hL0
  have HGr := Lib.hid (grow_own (SZ N) W h1 (hb N (Nat.le_refl _)))
  clear hst hb h0 hL0 h1
  go_enter Try.func88, Try.ntmps88
  go_wp2
  go_loopw [3, 11] (fun s i wr => ∃ (j : Nat), s = .int .i64 (SZ j : Int) ∧ i = .int .i64 (j : Int) ∧ j ≤ N ∧ W = wr) (fun _ i _ => ((N : Int) - intOf i).toNat)
  case atStart => exact ⟨0, by rw [H0.out]; rfl, rfl, Nat.zero_le _, rfl⟩
  case round =>
    obtain ⟨j, rfl, rfl, hj, rfl⟩ := hrel
    by_cases hlt : j < N
    · obtain ⟨Aj, nj, cj, xs, hc, hr, hs, hl⟩ := HST.out j hlt
      have i1 : (j : Int) < (N : Int) := by omega
      have hz1 := Hb.out (j + 1) (by omega)
      rw [hs] at hz1
      have HS := Lib.hid hs
      have hnn : ¬ ((SZ j : Int) + (nj : Int) < 0) := by omega
      clear hr hs hl
      go_wp2
      go_roundw
      case rel => exact ⟨j + 1, by rw [HS.out]; first | rfl | (congr 1; omega), by go_num, by omega, by trivial⟩
      case measure => (simp [intOf] <;> omega)
    · obtain rfl : j = N := by omega
      go_wp2_with (go_at_call 99; refine HGr.out.mono ?_; rintro e w1 ⟨A1, c1, rfl, ho1, hb1⟩)
      have HO1 := Lib.hid ho1
      have HB1 := Lib.hid hb1
      clear ho1 hb1
      go_loopw [6, 27] (fun l i wr => ∃ (j2 : Nat) (A2 : Option Addr) (c2 : Nat), l = .slice A2 (SZ j2) c2 ∧ i = .int .i64 (j2 : Int) ∧ j2 ≤ j ∧ Hid (Own wr 9 W.heap.size wr.heap.size A2 (SZ j2) c2 (strsV (Lf j2))) ∧ Hid (Below W.heap.size W wr)) (fun _ i _ => ((j : Int) - intOf i).toNat)
      case atStart => exact ⟨0, A1, c1, by rw [H0.out], rfl, Nat.zero_le _, by rw [H0.out, HL0.out]; exact HO1.out, HB1.out⟩
      case round =>
        obtain ⟨j2, A2, c2, rfl, rfl, hj2, HO, HB⟩ := hrel
        by_cases hlt2 : j2 < j
        · obtain ⟨Aj, nj, cj, xs, hc, hr, hs, hl⟩ := HST.out j2 hlt2
          have i1 : (j2 : Int) < (j : Int) := by omega
          have hz1 := Hb.out (j2 + 1) (by omega)
          rw [hs] at hz1
          have HS := Lib.hid hs
          have HLl := Lib.hid hl
          have HR := Lib.hid (hr.below HB.out)
          have hcw : wr.cell? ⟨g, j2, none⟩ = some (.slice Aj nj cj) := (World.cell?_of_block (a := ⟨g, j2, none⟩) (HB.out.block g hg)).trans hc
          have hBs := HB.out.size
          clear hr hs hl hc
          go_wp2_with (at_builtin; refine wpList_appendN wr rfl (.tmp 31) (.tmp 32) 22 rfl 9 (.string ByteArray.empty) 16 Try.underlying22 info_str rfl W.heap.size A2 (SZ j2) c2 (strsV (Lf j2)) rfl HO.out Aj nj cj (strsV xs) rfl HR.out.none_ HR.out (strs_one xs) (by omega) (by omega) hBs ?_; intro A5 c5 w5 ho5 hw5 hsz5)
          have HO5 : Hid (Own w5 9 W.heap.size w5.heap.size A5 (SZ (j2 + 1)) c5 (strsV (Lf (j2 + 1)))) := by
            rw [HS.out, HLl.out]
            exact ho5.congr (by simp [strsV])
          have HB5 : Hid (Below W.heap.size W w5) := HB.out.trans (hw5.below (Nat.le_refl _) hBs)
          clear ho5 hw5 hsz5
          go_roundw
          case rel => exact ⟨j2 + 1, A5, c5, by rw [HS.out], by go_num, by omega, HO5.out, HB5.out⟩
          case measure => (simp [intOf] <;> omega)
        · obtain rfl : j2 = j := by omega
          go_wp2
          go_ret
          exact ⟨A2, _, c2, rfl, HO.out, HB.out⟩
end Go.Proofs.Ytbmabfgnmafooaa
