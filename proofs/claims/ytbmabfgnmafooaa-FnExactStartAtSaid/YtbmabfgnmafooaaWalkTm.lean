/- A method with other changes; its changes turned: the walks, with a method as a result. -/
import Derived.Test.YtbmabfgnmafooaaWalkO
import Derived.Test.YtbmabfgnmafooaaWalkM
import Derived.Test.YtbmabfgnmafooaaOpenM
import Derived.Test.YtbmabfgnmafooaaLawM
import Derived.Test.YtbmabfgnmafooaaShelfm
import Derived.Deep.RegionHeld3
import Derived.Sort.OwnSorted
namespace Go.Proofs.Ytbmabfgnmafooaa
open Go.RowKit Go.Sort
set_option linter.unusedVariables false

/-- a method and a bool that a call hands back, the method's changes in new memory -/
def RetMB (nm : ByteArray) (st : Int) (ss : List ByteArray) (b : Bool) (w : World) (e : Ending) (w' : World) : Prop :=
  ∃ A n c, e = .returned (.tuple #[.agg #[.string nm, .int .i64 st, .slice A n c], .bool b]) ∧ Own w' 9 w.heap.size w'.heap.size A n c (strsV ss) ∧ Below w.heap.size w w'
theorem results_cell_tmp {P : Program} {fn : Func} {p s : Tmp} {ty : TypeId} (h : fn.results = #[.cell p ty, .tmp s]) (tmps : Array Value) (w : World) (g : Nat) (t : TypeId) (cs : Array Value) (fr : Nat × Nat) (d : TypeDesc)
    (hp : tmps.getD p undef = .pointer (some ⟨g, 0, none⟩)) (hg : w.heap[g]? = some (.cells cs t fr))
    (hu : P.underlying ty = some d) (hd : (match d with | .struct _ | .array _ _ => true | _ => false) = true) (hi : (P.info? ty).map (·.size) = some cs.size) :
    (results fn tmps).run P w = .ok (.tuple #[.agg cs, tmps.getD s undef]) w := by
  have hp' : tmps[p]?.getD undef = .pointer (some ⟨g, 0, none⟩) := by simpa using hp
  simp [results, h, hp', asAddr, run_loadVar_row w g t ty cs fr d hg hu hd hi]
theorem wr_one (w w0 : World) (g i : Nat) (v : Value) (h : Wr g (g + 1) w0 w) : Wr g (g + 1) w0 (w.setCell ⟨g, i, none⟩ v) := by
  refine Wr.setCell _ ?_ _ h
  show g ≤ g ∧ g < g + 1; omega
theorem wr_three (w : World) (g : Nat) (v0 v1 v2 : Value) : Wr g (g + 1) w (((w.setCell ⟨g, 0, none⟩ v0).setCell ⟨g, 1, none⟩ v1).setCell ⟨g, 2, none⟩ v2) :=
  wr_one _ _ _ _ _ (wr_one _ _ _ _ _ (wr_one _ _ _ _ _ (Wr.refl _ _ w)))
theorem map_enc2 (ss : List ByteArray) : (ss.map bs).map encStr = strsV ss := by
  unfold strsV
  rw [List.map_map]
  refine List.map_congr_left fun x _ => ?_
  show Value.string (mkS (bs x)) = _
  rw [mkS_bs]
theorem keep3B {x y : World} {g B : Nat} {v0 v1 v2 : Value} (hb : Below B x y) (hg : g < B) (h : x.cell? ⟨g, 0, none⟩ = some v0 ∧ x.cell? ⟨g, 1, none⟩ = some v1 ∧ x.cell? ⟨g, 2, none⟩ = some v2) :
    y.cell? ⟨g, 0, none⟩ = some v0 ∧ y.cell? ⟨g, 1, none⟩ = some v1 ∧ y.cell? ⟨g, 2, none⟩ = some v2 :=
  ⟨(World.cell?_of_block (a := ⟨g, 0, none⟩) (hb.block g hg)).trans h.1, (World.cell?_of_block (a := ⟨g, 1, none⟩) (hb.block g hg)).trans h.2.1, (World.cell?_of_block (a := ⟨g, 2, none⟩) (hb.block g hg)).trans h.2.2⟩
theorem reverse_own (A : Option Addr) (n c lo hi : Nat) (ss : List ByteArray) (W : World) (hlo : lo ≤ W.heap.size) (hn : n ≤ 1048576) (ho : Own W 9 lo hi A n c (strsV ss)) :
    Calls Try.prog 86 #[.slice A n c] W fun e w' => e = .returned (.tuple #[]) ∧ Own w' 9 lo hi A n c (strsV ss.reverse) ∧ Below lo W w' := by
  have hl : ss.length = n := ho.rd.slen
  rcases ho.1.2 with ⟨hnil, _⟩ | ⟨g, cap, cur, e, hbase, hb, h1, h2, h3, h4⟩
  · injection hnil with e1 e2 e3
    subst e1 e2 e3
    have hs : ss = [] := List.eq_nil_of_length_eq_zero hl
    subst hs
    refine (Try.slices_Reverse_string_empty none 0 W).mono ?_
    rintro e w' ⟨rfl, rfl⟩
    exact ⟨rfl, ho, Below.refl _ _⟩
  · injection e with e1 e2 e3
    subst e1 e3
    have hll : (ss.map bs).length = n := by simp [hl]
    have h4' : cur.toList.take (ss.map bs).length = (ss.map bs).map encStr := by rw [hll, map_enc2]; simpa using h4
    have hS := Try.slices_Reverse_string g 0 c (ss.map bs) W (holds_of_block hb h4') (by omega)
    rw [hll] at hS
    refine hS.mono ?_
    rintro e w' ⟨rfl, d, rfl⟩
    have hrow := ownsRow_sorted (n := d) (os := #[]) (ts := (ss.map bs).reverse) (ss := ss.map bs) (by simp) hbase hb (by rw [hll]; exact h1) h2 h3
    have hgr := grownBy_sorted (w := W) (g := g) (n := d) (os := #[]) (ss.map bs).reverse.toArray
    have ew : ∀ x : World, grow x #[] = x := fun x => by simp [grow]
    rw [ew] at hrow hgr
    rw [hll, ← List.map_reverse, map_enc2] at hrow
    rw [← List.map_reverse] at hgr ⊢
    exact ⟨rfl, ⟨hrow, ho.2⟩, ⟨hgr.os, hgr.tape, hgr.output, hgr.size, fun q hq => hgr.block q (Nat.lt_of_lt_of_le hq hlo) (fun e => by injection e with e; omega)⟩⟩
set_option maxRecDepth 100000 in
set_option maxHeartbeats 1000000 in
theorem reversed_any (A : Option Addr) (n c : Nat) (ss : List ByteArray) (W : World) (hn : n ≤ 1048576) (hr : Rd W A n (strsV ss)) :
    Calls Try.prog 57 #[.slice A n c] W (RetS 9 (strsV ss.reverse) W) := by
  have HC := Lib.hid (cloneS_any A n c ss W (by omega) hr)
  have Hl := Lib.hid hr.slen
  clear hr
  go_enter Try.func57, Try.ntmps57
  go_wp2_with first
    | (go_at_call 85; refine HC.out.mono ?_; rintro e w1 ⟨A1, n1, c1, rfl, ho1, hb1⟩; have hn1 : n1 ≤ 1048576 := (by have := ho1.rd.slen; have := Hl.out; omega))
    | (go_at_call 86; refine (reverse_own A1 n1 c1 _ _ ss _ hb1.size hn1 ho1).mono ?_; rintro e w2 ⟨rfl, ho2, hb2⟩)
  go_ret
  exact ⟨A1, n1, c1, rfl, ho2.mono (Nat.le_refl _) hb2.size, hb1.trans hb2⟩
set_option maxRecDepth 100000 in
set_option maxHeartbeats 1000000 in
theorem withChanges_any (nm : ByteArray) (st : Int) (A B : Option Addr) (n c m d : Nat) (w : World) :
    Calls Try.prog 56 #[.agg #[.string nm, .int .i64 st, .slice A n c], .slice B m d] w fun e w' => e = .returned (.agg #[.string nm, .int .i64 st, .slice B m d]) ∧ Below w.heap.size w w' := by
  have HF : Hid (((w.alloc (.cells #[.string nm, .int .i64 st, .slice A n c] 27)).alloc (.cells #[.string nm, .int .i64 st, .slice B m d] 27)).heap[w.heap.size + 1]? = some (.cells #[.string nm, .int .i64 st, .slice B m d] 27 (0, 0))) := heap_last _ _ _ (by simp)
  have HB : Hid (Below w.heap.size w ((w.alloc (.cells #[.string nm, .int .i64 st, .slice A n c] 27)).alloc (.cells #[.string nm, .int .i64 st, .slice B m d] 27))) := (below_alloc w _).alloc (by simp) _
  go_enter Try.func56, Try.ntmps56
  go_wp2
  refine bodyPost_ret (results_cell_row rfl _ _ (w.heap.size + 1) 27 _ (0, 0) _ rfl HF.out Try.underlying27 rfl (by kernel_rfl)) rfl ?_
  exact ⟨rfl, HB.out⟩
end Go.Proofs.Ytbmabfgnmafooaa
