/- Slices that may be read, slices that a call made: what is known of them, and how it is kept. -/
import Derived.Test.YtgpjbmlemnjhfaaKit2
import Derived.Maps.AppendAt
import Derived.WalkSmall
namespace Go.Proofs.Ytgpjbmlemnjhfaa
open Go.RowKit

/-- a slice of n cells xs that may be read -/
def Rd (w : World) (A : Option Addr) (n : Nat) (xs : List Value) : Prop :=
  xs.length = n ∧ n ≤ maxLen ∧ (n = 0 ∨ ∃ b off, A = some ⟨b, off, none⟩ ∧ b < w.heap.size ∧ ∀ j v, xs[j]? = some v → w.cell? ⟨b, off + j, none⟩ = some v)
/-- a slice that lies in a block of the call's own, from lo on and below hi -/
def Own (w : World) (E : TypeId) (lo hi : Nat) (A : Option Addr) (n c : Nat) (xs : List Value) : Prop :=
  w.ownsRow lo E 1 (.slice A n c) n xs ∧ ∀ g, (Value.slice A n c).ownBlock = some g → g < hi
/-- only blocks from lo on and below hi, and new ones, have turned -/
structure Wr (lo hi : Nat) (w w' : World) : Prop where
  os : w'.os = w.os
  tape : w'.tape = w.tape
  output : w'.output = w.output
  size : w.heap.size ≤ w'.heap.size
  block : ∀ k, k < w.heap.size → (k < lo ∨ hi ≤ k) → w'.heap[k]? = w.heap[k]?

section
variable {w w' : World} {A : Option Addr} {n : Nat} {xs : List Value}
theorem Rd.at_ (h : Rd w A n xs) {k : Nat} (hk : k < n) : ∃ b off, A = some ⟨b, off, none⟩ ∧ b < w.heap.size ∧ w.cell? ⟨b, off + k, none⟩ = some (xs[k]'(by rw [h.1]; exact hk)) := by
  rcases h.2.2 with h0 | ⟨b, off, e, hb, hc⟩
  · omega
  · exact ⟨b, off, e, hb, hc k _ (List.getElem?_eq_getElem _)⟩
theorem Rd.same (h : Rd w A n xs) (hs : w.heap.size ≤ w'.heap.size) (hB : ∀ k, k < w.heap.size → w'.heap[k]? = w.heap[k]?) : Rd w' A n xs := by
  refine ⟨h.1, h.2.1, ?_⟩
  rcases h.2.2 with h0 | ⟨b, off, e, hb, hc⟩
  · exact .inl h0
  · exact .inr ⟨b, off, e, by omega, fun j v hv => (World.cell?_of_block (a := ⟨b, off + j, none⟩) (hB b hb)).trans (hc j v hv)⟩
theorem Rd.below (h : Rd w A n xs) (hb : Below w.heap.size w w') : Rd w' A n xs := h.same hb.size hb.block
theorem Rd.drewN (h : Rd w A n xs) (k : Nat) : Rd (w.drewN k) A n xs := h
theorem Rd.nil (w : World) : Rd w none 0 [] := ⟨rfl, Nat.zero_le _, .inl rfl⟩
theorem Rd.lenB (h : Rd w A n xs) : n ≤ 9223372036854775807 := by have := h.2.1; unfold maxLen at this; omega
/-- a slice that came in stays as it was while blocks of the call's own are written -/
theorem Rd.under {w0 : World} (h : Rd w0 A n xs) (hb : Below w0.heap.size w0 w') : Rd w' A n xs := h.below hb

theorem Wr.refl (lo hi : Nat) (w : World) : Wr lo hi w w := ⟨rfl, rfl, rfl, Nat.le_refl _, fun _ _ _ => rfl⟩
theorem Wr.of_below {lo hi : Nat} (h : Below w.heap.size w w') : Wr lo hi w w' := ⟨h.os, h.tape, h.output, h.size, fun k hk _ => h.block k hk⟩
theorem Wr.trans {lo hi : Nat} {w'' : World} (h : Wr lo hi w w') (k : Wr lo hi w' w'') : Wr lo hi w w'' :=
  ⟨k.os.trans h.os, k.tape.trans h.tape, k.output.trans h.output, Nat.le_trans h.size k.size, fun i hi' ho => (k.block i (Nat.lt_of_lt_of_le hi' h.size) ho).trans (h.block i hi' ho)⟩
theorem Wr.below {lo hi B : Nat} (h : Wr lo hi w w') (hB : B ≤ lo) (hB' : B ≤ w.heap.size) : Below B w w' :=
  ⟨h.os, h.tape, h.output, h.size, fun k hk => h.block k (by omega) (.inl (by omega))⟩
theorem Wr.setCell {lo hi : Nat} (p : Addr) (hp : lo ≤ p.block ∧ p.block < hi) (u : Value) (h : Wr lo hi w w') : Wr lo hi w (w'.setCell p u) :=
  h.trans ⟨rfl, rfl, rfl, by simp, fun k hk ho => Below.heap_setCell _ _ _ _ (by omega)⟩

theorem Own.lt {E : TypeId} {lo hi c : Nat} (h : Own w E lo hi A n c xs) : ∀ g, (Value.slice A n c).ownBlock = some g → lo ≤ g ∧ g < hi ∧ g < w.heap.size := fun g hg => by
  have h1 := h.1.lt g hg
  exact ⟨h1.1, h.2 g hg, h1.2⟩
theorem Own.len {E : TypeId} {lo hi c : Nat} (h : Own w E lo hi A n c xs) : xs.length = n := by have := h.1.1; omega
theorem Own.maxL {E : TypeId} {lo hi c : Nat} (h : Own w E lo hi A n c xs) : n ≤ maxLen := by
  rcases h.1.2 with ⟨_, h0⟩ | ⟨g, cap, cur, _, _, _, h1, h2, _⟩
  · rw [h0]; exact Nat.zero_le _
  · omega
theorem Own.form {E : TypeId} {lo hi c : Nat} (h : Own w E lo hi A n c xs) (hn : 0 < n) : ∃ g, A = some ⟨g, 0, none⟩ ∧ lo ≤ g ∧ g < hi ∧ g < w.heap.size := by
  rcases h.1.2 with ⟨_, h0⟩ | ⟨g, cap, cur, e, _⟩
  · omega
  · injection e with e1 e2 e3
    subst e1
    exact ⟨g, rfl, h.lt g (by simp [Value.ownBlock])⟩
theorem Own.mem {E : TypeId} {lo hi c g : Nat} (h : Own w E lo hi (some ⟨g, 0, none⟩) n c xs) : Mem w g xs := Mem.of_own h.1
theorem Own.rd {E : TypeId} {lo hi c : Nat} (h : Own w E lo hi A n c xs) : Rd w A n xs := by
  refine ⟨h.len, h.maxL, ?_⟩
  rcases Nat.eq_zero_or_pos n with h0 | h0
  · exact .inl h0
  · obtain ⟨g, rfl, _, _, hg⟩ := h.form h0
    exact .inr ⟨g, 0, rfl, hg, fun j v hv => by rw [Nat.zero_add]; exact (h.mem j v hv).1⟩
theorem Own.wr {E : TypeId} {lo hi c l2 h2 : Nat} (h : Own w E lo hi A n c xs) (hw : Wr l2 h2 w w') (hd : hi ≤ l2 ∨ h2 ≤ lo) : Own w' E lo hi A n c xs := by
  refine ⟨⟨h.1.1, ?_⟩, h.2⟩
  rcases h.1.2 with h0 | ⟨g, cap, cur, e, hlo, hh, r⟩
  · exact .inl h0
  · have hg := h.lt g (by rw [e]; simp [Value.ownBlock])
    exact .inr ⟨g, cap, cur, e, hlo, (hw.block g hg.2.2 (by omega)).trans hh, r⟩
theorem Own.below {E : TypeId} {lo hi c : Nat} (h : Own w E lo hi A n c xs) (hb : Below w.heap.size w w') : Own w' E lo hi A n c xs := by
  refine ⟨⟨h.1.1, ?_⟩, h.2⟩
  rcases h.1.2 with h0 | ⟨g, cap, cur, e, hlo, hh, r⟩
  · exact .inl h0
  · have hg := h.lt g (by rw [e]; simp [Value.ownBlock])
    exact .inr ⟨g, cap, cur, e, hlo, (hb.block g hg.2.2).trans hh, r⟩
theorem Own.mono {E : TypeId} {lo hi lo' hi' c : Nat} (h : Own w E lo hi A n c xs) (h1 : lo' ≤ lo) (h2 : hi ≤ hi') : Own w E lo' hi' A n c xs := by
  refine ⟨⟨h.1.1, ?_⟩, fun g hg => Nat.lt_of_lt_of_le (h.2 g hg) h2⟩
  rcases h.1.2 with h0 | ⟨g, cap, cur, e, hlo, r⟩
  · exact .inl h0
  · exact .inr ⟨g, cap, cur, e, Nat.le_trans h1 hlo, r⟩
theorem Own.of_row {E : TypeId} {lo c : Nat} (h : w.ownsRow lo E 1 (.slice A n c) n xs) : Own w E lo w.heap.size A n c xs := ⟨h, fun g hg => (h.lt g hg).2⟩
theorem Own.drewN {E : TypeId} {lo hi c : Nat} (h : Own w E lo hi A n c xs) (k : Nat) : Own (w.drewN k) E lo hi A n c xs := h
theorem Own.nil (w : World) (E : TypeId) (lo hi : Nat) : Own w E lo hi none 0 0 [] := ⟨World.ownsRow_nil _ _ _ _, fun g hg => by simp [Value.ownBlock] at hg⟩
/-- a store into an owned slice -/
theorem Own.set_ {E : TypeId} {lo hi c g : Nat} (h : Own w E lo hi (some ⟨g, 0, none⟩) n c xs) (j : Nat) (u : Value) : Own (w.setCell ⟨g, j, none⟩ u) E lo hi (some ⟨g, 0, none⟩) n c (xs.set j u) :=
  ⟨(h.1.stored j u).1, h.2⟩
theorem Own.congr {E : TypeId} {lo hi c : Nat} {ys : List Value} (h : Own w E lo hi A n c xs) (e : xs = ys) : Own w E lo hi A n c ys := e ▸ h
end

/-- strings and ints as cells -/
def strsV (ss : List ByteArray) : List Value := ss.map .string
def intsV (zs : List Int) : List Value := zs.map (.int .i64)
theorem strsV_length (ss : List ByteArray) : (strsV ss).length = ss.length := by simp [strsV]
theorem intsV_length (zs : List Int) : (intsV zs).length = zs.length := by simp [intsV]
theorem strsV_get (ss : List ByteArray) (k : Nat) (h : k < (strsV ss).length) : (strsV ss)[k] = .string (ss[k]'(by rwa [strsV_length] at h)) := by simp [strsV]
theorem intsV_get (zs : List Int) (k : Nat) (h : k < (intsV zs).length) : (intsV zs)[k] = .int .i64 (zs[k]'(by rwa [intsV_length] at h)) := by simp [intsV]
theorem Rd.str {w : World} {A : Option Addr} {n : Nat} {ss : List ByteArray} (h : Rd w A n (strsV ss)) {k : Nat} (hk : k < n) :
    ∃ b off, A = some ⟨b, off, none⟩ ∧ b < w.heap.size ∧ w.cell? ⟨b, off + k, none⟩ = some (.string (ss[k]'(by have := h.1; rw [strsV_length] at this; omega))) := by
  obtain ⟨b, off, e, hb, hc⟩ := h.at_ hk
  exact ⟨b, off, e, hb, by rw [hc, strsV_get]⟩
theorem Rd.int {w : World} {A : Option Addr} {n : Nat} {zs : List Int} (h : Rd w A n (intsV zs)) {k : Nat} (hk : k < n) :
    ∃ b off, A = some ⟨b, off, none⟩ ∧ b < w.heap.size ∧ w.cell? ⟨b, off + k, none⟩ = some (.int .i64 (zs[k]'(by have := h.1; rw [intsV_length] at this; omega))) := by
  obtain ⟨b, off, e, hb, hc⟩ := h.at_ hk
  exact ⟨b, off, e, hb, by rw [hc, intsV_get]⟩
theorem Rd.slen {w : World} {A : Option Addr} {n : Nat} {ss : List ByteArray} (h : Rd w A n (strsV ss)) : ss.length = n := by have := h.1; rwa [strsV_length] at this
theorem Rd.ilen {w : World} {A : Option Addr} {n : Nat} {ss : List Int} (h : Rd w A n (intsV ss)) : ss.length = n := by have := h.1; rwa [intsV_length] at this

/-- what a call that hands back one new slice leaves -/
def RetS (E : TypeId) (xs : List Value) (w : World) (e : Ending) (w' : World) : Prop :=
  ∃ A n c, e = .returned (.slice A n c) ∧ Own w' E w.heap.size w'.heap.size A n c xs ∧ Below w.heap.size w w'
/-- the same with a bool behind it; on 'false' the slice is empty -/
def RetSB (E : TypeId) (xs : List Value) (b : Bool) (w : World) (e : Ending) (w' : World) : Prop :=
  ∃ A n c, e = .returned (.tuple #[.slice A n c, .bool b]) ∧ Own w' E w.heap.size w'.heap.size A n c xs ∧ Below w.heap.size w w'

/-- 'append(list, x)': at the operation -/
theorem wpList_append1 {P : Program} (w : World) {ops : Array Oper} {rest : List Oper} {o : Oper} {a : Act} {Q : Exit → Act → World → Prop} (hgd : o.guard = none) (s x : Operand) (t : TypeId)
    (ho : o.op = .call { callee := .builtin .append, args := #[s, x], argTypes := #[t, t] })
    (e : TypeId) (z : Value) (bytes : Nat) (ht : P.underlying t = some (.slice e)) (hi : (P.info? e).map (fun i => (i.zero, i.size, i.bytes)) = some (some z, 1, bytes)) (hzs : z.cells.size = 1)
    (B : Nat) (A : Option Addr) (n c : Nat) (xs : List Value) (u : Value) (hs : a.eval s = .slice A n c) (hx : a.eval x = .slice (some ⟨w.heap.size, 0, none⟩) 1 1) (hu : u.oneCell' = true)
    (hown : Own w e B w.heap.size A n c xs) (hn : n + 1 ≤ 4294967296) (hby : bytes ≤ 24) (hB : B ≤ w.heap.size)
    (h : ∀ A' c' w', Own w' e B w'.heap.size A' (n + 1) c' (xs ++ [u]) → Wr B w.heap.size w w' → w.heap.size < w'.heap.size → ((Value.slice A' (n + 1) c').ownBlock = (Value.slice A n c).ownBlock ∨ ∃ g, A' = some ⟨g, 0, none⟩ ∧ w.heap.size ≤ g) → wpList P ops Q rest (a.put o.dst (.slice A' (n + 1) c')) w') :
    wpList P ops Q (o :: rest) a (w.alloc (.cells #[u] e)) := by
  obtain ⟨i, hi0, hz0, hz1, hz2⟩ := info_parts hi
  have hb : (n + 1) * bytes ≤ 4294967296 * 24 := Nat.mul_le_mul hn hby
  refine wpList_append_own_at (w.alloc (.cells #[u] e)) hgd s x t ho B e i z 1 bytes ht hi0 hz0 hz1 hz2 hzs (by omega) _ n xs hs (hown.1.alloc _) ⟨w.heap.size, 0, none⟩ 1 1 [u] hx rfl (cell_one_new _ _ _) (by simpa using hu) (by unfold maxLen; omega) (by omega) (by simp; omega) ?_
  intro v' w' ho' hg _ hat
  have hform : ∃ A' c', v' = .slice A' (n + 1) c' ∧ (∃ g, A' = some ⟨g, 0, none⟩) := by
    rcases ho'.2 with ⟨_, h0⟩ | ⟨g, cap, cur, e', _⟩
    · omega
    · exact ⟨_, _, e', g, rfl⟩
  obtain ⟨A', c', rfl, g, rfl⟩ := hform
  have hsz : w.heap.size < w'.heap.size := by have := hg.size; simp at this; omega
  refine h _ c' w' (Own.of_row ho') ⟨hg.os, hg.tape, hg.output, by omega, fun k hk ho2 => ?_⟩ hsz ?_
  · refine (hg.block k (by simp; omega) ?_).trans (Below.heap_alloc _ _ _ hk)
    intro e2
    have := hown.1.lt k e2.symm
    omega
  · rcases hat with e1 | e1
    · exact .inl e1
    · refine .inr ⟨g, rfl, ?_⟩
      simp [Value.ownBlock] at e1
      omega

/-- 'make([]T, n)' of one-cell elements -/
theorem make_row {P : Program} (w : World) (t e : TypeId) (z : Value) (bytes : Nat) (ht : P.underlying t = some (.slice e)) (hi : (P.info? e).map (fun i => (i.zero, i.size, i.bytes)) = some (some z, 1, bytes)) (hzc : z.cells = #[z]) (hby : bytes ≤ 24) (n : Nat) (hn : n ≤ 4294967296) :
    ∃ w', (Instr.makeSlice t (.int .i64 (n : Int)) (.int .i64 (n : Int))).run P w = .ok (.slice (some ⟨w.heap.size, 0, none⟩) n n) w' ∧ Own w' e w.heap.size w'.heap.size (some ⟨w.heap.size, 0, none⟩) n n (List.replicate n z) ∧ Below w.heap.size w w' ∧ w.heap.size < w'.heap.size := by
  obtain ⟨i, hi0, hz0, hz1, hz2⟩ := info_parts hi
  have hb0 : bytes * n ≤ 24 * 4294967296 := Nat.mul_le_mul hby hn
  have h63 : (n : Int) ≤ 9223372036854775807 := by omega
  have hb : (i.bytes : Int) * (n : Int) ≤ 281474976710656 := by rw [hz2, ← Int.natCast_mul]; omega
  have hr := run_make (P := P) w t e i _ ht hi0 hz0 .i64 .i64 n n (by omega) (Int.le_refl _) hb h63
  simp only [Int.toNat_natCast, hz1, Nat.mul_one, hzc] at hr
  have ho : (w.alloc (.cells (madeCells #[z] n) e)).ownsRow w.heap.size e 1 (.slice (some ⟨w.heap.size, 0, none⟩) n n) n (madeCells #[z] n).toList :=
    World.ownsRow_lit w _ n (Nat.le_refl _) (by unfold maxLen; omega) (by simp [size_madeCells])
  rw [toList_madeCells_one] at ho
  exact ⟨_, hr, Own.of_row ho, below_alloc _ _, by simp⟩

/-- an empty literal '[]T{}' -/
theorem own_empty (w : World) (e : TypeId) : Own (w.alloc (.cells #[] e)) e w.heap.size (w.alloc (.cells #[] e)).heap.size (some ⟨w.heap.size, 0, none⟩) 0 0 [] :=
  Own.of_row (World.ownsRow_lit w #[] 0 (Nat.le_refl _) (Nat.zero_le _) rfl)
/-- a literal of one element -/
theorem own_one (w : World) (e : TypeId) (u : Value) : Own (w.alloc (.cells #[u] e)) e w.heap.size (w.alloc (.cells #[u] e)).heap.size (some ⟨w.heap.size, 0, none⟩) 1 1 [u] :=
  Own.of_row (World.ownsRow_lit w #[u] 1 (Nat.le_refl _) (by unfold maxLen; omega) rfl)
end Go.Proofs.Ytgpjbmlemnjhfaa
