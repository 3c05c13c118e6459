/- Lists of places as rows that are only read: an owned list of headers. -/
import Derived.Test.YtgpjbmlemnjhfaaPlainFr
import Derived.Test.YtgpjbmlemnjhfaaWalkM
import Derived.Test.YtgpjbmlemnjhfaaWalkI
import Derived.Test.YtgpjbmlemnjhfaaNest
import Derived.Test.YtgpjbmlemnjhfaaKit5
namespace Go.Proofs.Ytgpjbmlemnjhfaa
open Go.RowKit
set_option linter.unusedVariables false

def natV (l : List Nat) : List Value := intsV (l.map fun p : Nat => (p : Int))
structure RowsF (w : World) (lo hi : Nat) (A : Option Addr) (n c : Nat) (xs : List (Row × List Nat)) : Prop where
  o : Own w 50 lo hi A n c (rowsV (xs.map (·.1)))
  row : ∀ x ∈ xs, Rd w x.1.1 x.1.2.1 (natV x.2) ∧ ∀ g, (rowV x.1).ownBlock = some g → lo ≤ g ∧ g < w.heap.size ∧ Off A n c g
section
variable {w w' : World} {lo hi n c : Nat} {A : Option Addr} {xs ys : List (Row × List Nat)}
theorem Wx.rdr {row : Option Nat} {r : Row} {vs : List Value} (h : Wx row w w') (hr : Rd w r.1 r.2.1 vs) (hne : ∀ g, (rowV r).ownBlock = some g → some g ≠ row) : Rd w' r.1 r.2.1 vs := by
  obtain ⟨a, m, k⟩ := r
  cases a with
  | none =>
    refine ⟨hr.1, hr.2.1, ?_⟩
    rcases hr.2.2 with h0 | ⟨b, off, e, _⟩
    · exact .inl h0
    · cases e
  | some ad =>
    rcases hr.2.2 with h0 | ⟨b, off, e, hb⟩
    · exact ⟨hr.1, hr.2.1, .inl h0⟩
    · have e2 : ad = ⟨b, off, none⟩ := by injection e
      subst e2
      exact h.rd hr (hne b rfl)
theorem RowsF.below (h : RowsF w lo hi A n c xs) (hb : Below w.heap.size w w') : RowsF w' lo hi A n c xs :=
  ⟨h.o.below hb, fun x hx => ⟨(h.row x hx).1.below hb, fun g hg => ⟨((h.row x hx).2 g hg).1, Nat.lt_of_lt_of_le ((h.row x hx).2 g hg).2.1 hb.size, ((h.row x hx).2 g hg).2.2⟩⟩⟩
theorem RowsF.mono {lo' hi' : Nat} (h : RowsF w lo hi A n c xs) (h1 : lo' ≤ lo) (h2 : hi ≤ hi') : RowsF w lo' hi' A n c xs :=
  ⟨h.o.mono h1 h2, fun x hx => ⟨(h.row x hx).1, fun g hg => ⟨Nat.le_trans h1 ((h.row x hx).2 g hg).1, ((h.row x hx).2 g hg).2⟩⟩⟩
theorem RowsF.len (h : RowsF w lo hi A n c xs) : xs.length = n := by have := h.o.rd.1; simpa [rowsV] using this
theorem RowsF.nil (w : World) (lo hi : Nat) : RowsF w lo hi none 0 0 [] := ⟨Own.nil _ _ _ _, fun x hx => by cases hx⟩
theorem RowsF.push {A' : Option Addr} {m c' : Nat} (h : RowsF w lo w.heap.size A n c xs) (hy : ∀ x ∈ ys, Rd w x.1.1 x.1.2.1 (natV x.2) ∧ ∀ g, (rowV x.1).ownBlock = some g → lo ≤ g ∧ g < w.heap.size ∧ Off A n c g)
    (ho : Own w' 50 lo w'.heap.size A' (n + m) c' (rowsV (xs.map (·.1)) ++ rowsV (ys.map (·.1)))) (hx : Wx (Value.slice A n c).ownBlock w w') (hs : w.heap.size ≤ w'.heap.size)
    (hat : (Value.slice A' (n + m) c').ownBlock = (Value.slice A n c).ownBlock ∨ ∃ g, A' = some ⟨g, 0, none⟩ ∧ w.heap.size ≤ g) : RowsF w' lo w'.heap.size A' (n + m) c' (xs ++ ys) := by
  refine ⟨ho.congr (by simp [rowsV]), fun x hm => ?_⟩
  have hall : Rd w x.1.1 x.1.2.1 (natV x.2) ∧ ∀ g, (rowV x.1).ownBlock = some g → lo ≤ g ∧ g < w.heap.size ∧ Off A n c g := by
    rcases List.mem_append.1 hm with h1 | h1
    · exact h.row x h1
    · exact hy x h1
  exact ⟨hx.rdr hall.1 (fun g hg => (hall.2 g hg).2.2.ne), fun g hg => ⟨(hall.2 g hg).1, Nat.lt_of_lt_of_le (hall.2 g hg).2.1 hs, (hall.2 g hg).2.2.next (hall.2 g hg).2.1 hat⟩⟩
end
/-- rows that are only read while a slice of the call's own (A n c) grows and is written -/
structure SrcF (w : World) (A1 : Option Addr) (n1 : Nat) (xs : List (Row × List Nat)) (A : Option Addr) (n c : Nat) : Prop where
  rd : Rd w A1 n1 (rowsV (xs.map (·.1)))
  hoff : ∀ b o, A1 = some ⟨b, o, none⟩ → 0 < n1 → b < w.heap.size ∧ Off A n c b
  row : ∀ x ∈ xs, Rd w x.1.1 x.1.2.1 (natV x.2) ∧ ∀ g, (rowV x.1).ownBlock = some g → g < w.heap.size ∧ Off A n c g
section
variable {w w' : World} {n1 n c : Nat} {A1 A : Option Addr} {xs : List (Row × List Nat)}
theorem SrcF.of {lo hi c1 : Nat} (h : RowsF w lo hi A1 n1 c1 xs) (hf : ∀ g, lo ≤ g → g < w.heap.size → Off A n c g) : SrcF w A1 n1 xs A n c := by
  refine ⟨h.o.rd, fun b o e hn => ?_, fun x hx => ⟨(h.row x hx).1, fun g hg => ?_⟩⟩
  · obtain ⟨g, e2, h1, _, h2⟩ := h.o.form hn
    rw [e] at e2; injection e2 with e2; injection e2 with e3 _
    subst e3; exact ⟨h2, hf _ h1 h2⟩
  · have := (h.row x hx).2 g hg
    exact ⟨this.2.1, hf g this.1 this.2.1⟩
theorem SrcF.below (h : SrcF w A1 n1 xs A n c) (hb : Below w.heap.size w w') : SrcF w' A1 n1 xs A n c :=
  ⟨h.rd.below hb, fun b o e hn => ⟨Nat.lt_of_lt_of_le (h.hoff b o e hn).1 hb.size, (h.hoff b o e hn).2⟩, fun x hx => ⟨(h.row x hx).1.below hb, fun g hg => ⟨Nat.lt_of_lt_of_le ((h.row x hx).2 g hg).1 hb.size, ((h.row x hx).2 g hg).2⟩⟩⟩
theorem SrcF.wx {A' : Option Addr} {n' c' : Nat} (h : SrcF w A1 n1 xs A n c) (hx : Wx (Value.slice A n c).ownBlock w w')
    (hat : (Value.slice A' n' c').ownBlock = (Value.slice A n c).ownBlock ∨ ∃ g, A' = some ⟨g, 0, none⟩ ∧ w.heap.size ≤ g) : SrcF w' A1 n1 xs A' n' c' := by
  refine ⟨?_, fun b o e hn => ⟨Nat.lt_of_lt_of_le (h.hoff b o e hn).1 hx.size, (h.hoff b o e hn).2.next (h.hoff b o e hn).1 hat⟩, fun x hm => ⟨?_, fun g hg => ⟨Nat.lt_of_lt_of_le ((h.row x hm).2 g hg).1 hx.size, ((h.row x hm).2 g hg).2.next ((h.row x hm).2 g hg).1 hat⟩⟩⟩
  · rcases Nat.eq_zero_or_pos n1 with h0 | h0
    · exact ⟨h.rd.1, h.rd.2.1, .inl h0⟩
    · rcases h.rd.2.2 with h1 | ⟨b, o, e, _⟩
      · omega
      · subst e; exact hx.rd h.rd (h.hoff b o rfl h0).2.ne
  · exact hx.rdr (h.row x hm).1 fun g hg => ((h.row x hm).2 g hg).2.ne
theorem SrcF.len (h : SrcF w A1 n1 xs A n c) : xs.length = n1 := by have := h.rd.1; simpa [rowsV] using this
/-- the header of a row, at its cell -/
theorem SrcF.at_ (h : SrcF w A1 n1 xs A n c) {k : Nat} (hk : k < n1) : ∃ b off x, A1 = some ⟨b, off, none⟩ ∧ xs[k]? = some x ∧ x ∈ xs ∧ w.cell? ⟨b, off + k, none⟩ = some (.slice x.1.1 x.1.2.1 x.1.2.2) := by
  obtain ⟨b, off, r, e, _, hr, hc⟩ := h.rd.row hk
  rw [List.getElem?_map] at hr
  cases hx : xs[k]? with
  | none => rw [hx] at hr; cases hr
  | some x =>
    rw [hx] at hr; injection hr with hr; subst hr
    exact ⟨b, off, x, e, rfl, List.mem_of_getElem? hx, hc⟩
end
theorem frL_len (n : Nat) : ∀ f p, (frL n f p).length ≤ 2 ^ f
  | 0, p => by simp [frL]
  | f + 1, p => by
    unfold frL
    split
    · simp; exact Nat.one_le_two_pow
    · rw [List.length_append, List.length_map, Nat.pow_succ]
      have h1 := frL_len n f (p + 1)
      have h2 := frL_len n f (p + 2)
      split
      · omega
      · simp; omega
theorem info_intsF : (Try.prog.info? 50).map (fun i => (i.zero, i.size, i.bytes)) = some (some (.slice none 0 0), 1, 24) := by kernel_rfl
def RetF (zs : List (List Nat)) (w : World) (e : Ending) (w' : World) : Prop :=
  ∃ A n c xs, e = .returned (.slice A n c) ∧ RowsF w' w.heap.size w'.heap.size A n c xs ∧ xs.map (·.2) = zs ∧ Below w.heap.size w w'
set_option maxRecDepth 100000 in
set_option maxHeartbeats 1000000 in
theorem l2From_end (n p : Nat) (W : World) (h : n < p) : Calls Try.prog 82 #[.int .i64 n, .int .i64 p] W (RetF [[]] W) := by
  have i1 : (n : Int) < (p : Int) := by omega
  have HR : Hid (RowsF (W.alloc (.cells #[.slice none 0 0] 50)) W.heap.size (W.alloc (.cells #[.slice none 0 0] 50)).heap.size (some ⟨W.heap.size, 0, none⟩) 1 1 [((none, 0, 0), [])]) :=
    ⟨own_one W 50 (.slice none 0 0), fun x hx => by
      rw [List.mem_singleton.1 hx]
      exact ⟨⟨rfl, Nat.zero_le _, .inl rfl⟩, fun g hg => by cases hg⟩⟩
  go_enter Try.func82, Try.ntmps82
  go_wp2
  go_ret
  exact ⟨_, _, _, _, rfl, HR.out, rfl, below_alloc _ _⟩
end Go.Proofs.Ytgpjbmlemnjhfaa
