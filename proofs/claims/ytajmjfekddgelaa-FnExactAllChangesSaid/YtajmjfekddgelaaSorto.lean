/- The library's sort of a slice of strings that the call owns, and the program's sorted copy. -/
import Derived.Test.YtajmjfekddgelaaShelfo
import Derived.Test.YtajmjfekddgelaaWalkSo
import Derived.Sort.OwnSorted
namespace Go.Proofs.Ytajmjfekddgelaa
open Go.RowKit Go.Sort
set_option linter.unusedVariables false

theorem map_enc (ss : List ByteArray) : (ss.map bs).map encStr = strsV ss := by
  unfold strsV
  rw [List.map_map]
  refine List.map_congr_left fun x _ => ?_
  show Value.string (mkS (bs x)) = _
  rw [mkS_bs]
theorem srt_enc (ss : List ByteArray) : ((ss.map bs).mergeSort fun x y => decide (x ≤ y)).map encStr = strsV (srt ss) := by
  rw [← map_enc, srt_bs]
theorem sort_own (A : Option Addr) (n c lo hi : Nat) (ss : List ByteArray) (W : World) (hlo : lo ≤ W.heap.size) (hn : n ≤ 1048576) (ho : Own W 9 lo hi A n c (strsV ss)) :
    Calls Try.prog 36 #[.slice A n c] W fun e w' => e = .returned (.tuple #[]) ∧ Own w' 9 lo hi A n c (strsV (srt ss)) ∧ Below lo W w' := by
  have hl : ss.length = n := ho.rd.slen
  rcases ho.1.2 with ⟨hnil, _⟩ | ⟨g, cap, cur, e, hbase, hb, h1, h2, h3, h4⟩
  · injection hnil with e1 e2 e3
    subst e1 e2 e3
    have hs : ss = [] := List.eq_nil_of_length_eq_zero hl
    subst hs
    refine (Try.slices_Sort_string_none none 0 W).mono ?_
    rintro e w' ⟨rfl, rfl⟩
    exact ⟨rfl, by simpa [srt, strsV] using ho, Below.refl _ _⟩
  · injection e with e1 e2 e3
    subst e1 e3
    have hll : (ss.map bs).length = n := by simp [hl]
    have h4' : cur.toList.take (ss.map bs).length = (ss.map bs).map encStr := by rw [hll, map_enc]; simpa using h4
    have hg : g < W.heap.size := (Array.getElem?_eq_some_iff.1 hb).1
    have hS := Try.slices_Sort_string g 0 c (ss.map bs) W (holds_of_block hb h4') hg (by omega)
    rw [hll] at hS
    refine hS.mono ?_
    rintro e w' ⟨rfl, d, os, rfl⟩
    have hrow := ownsRow_sorted (n := d) (os := os) (ts := (ss.map bs).mergeSort fun x y => decide (x ≤ y)) (ss := ss.map bs) (by simp) hbase hb (by rw [hll]; exact h1) h2 h3
    rw [hll, srt_enc] at hrow
    have hgr := grownBy_sorted (w := W) (g := g) (n := d) (os := os) ((ss.map bs).mergeSort fun x y => decide (x ≤ y)).toArray
    exact ⟨rfl, ⟨hrow, ho.2⟩, ⟨hgr.os, hgr.tape, hgr.output, hgr.size, fun q hq => hgr.block q (Nat.lt_of_lt_of_le hq hlo) (fun e => by injection e with e; omega)⟩⟩
set_option maxRecDepth 100000 in
set_option maxHeartbeats 1000000 in
theorem sorted_any (A : Option Addr) (n c : Nat) (ss : List ByteArray) (W : World) (hn : n ≤ 1048576) (hr : Rd W A n (strsV ss)) :
    Calls Try.prog 29 #[.slice A n c] W (RetS 9 (strsV (srt ss)) W) := by
  have HC := Lib.hid (cloneS_any A n c ss W (by omega) hr)
  have Hl := Lib.hid hr.slen
  clear hr
  go_enter Try.func29, Try.ntmps29
  go_wp2_with first
    | (go_at_call 53; refine HC.out.mono ?_; rintro e w1 ⟨A1, n1, c1, rfl, ho1, hb1⟩; have hn1 : n1 ≤ 1048576 := (by have := ho1.rd.slen; have := Hl.out; omega))
    | (go_at_call 36; refine (sort_own A1 n1 c1 _ _ ss _ hb1.size hn1 ho1).mono ?_; rintro e w2 ⟨rfl, ho2, hb2⟩)
  go_ret
  exact ⟨A1, n1, c1, rfl, ho2.mono (Nat.le_refl _) hb2.size, hb1.trans hb2⟩
end Go.Proofs.Ytajmjfekddgelaa
