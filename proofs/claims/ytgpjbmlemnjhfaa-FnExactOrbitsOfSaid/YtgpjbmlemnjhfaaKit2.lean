/- Memory of a call's own that is known cell by cell; bytes made, written and read back. -/
import Derived.Test.YtgpjbmlemnjhfaaKit1
import Derived.Laws.IdiomStrings
import Derived.Laws.BytesArg
import Derived.Below
import Derived.Deep.Draws
namespace Go.Proofs.Ytgpjbmlemnjhfaa
open Go.RowKit

/-- block g holds the cells xs from its head on, and they may be written -/
def Mem (w : World) (g : Nat) (xs : List Value) : Prop := ∀ j v, xs[j]? = some v → w.cell? ⟨g, j, none⟩ = some v ∧ w.frozen? ⟨g, j, none⟩ = false
theorem add_zero_none (g j : Nat) : (⟨g, 0, none⟩ : Addr).add j = ⟨g, j, none⟩ := by unfold Addr.add; split <;> simp_all

section
variable {w w' : World} {g : Nat} {xs : List Value}
theorem Mem.get (h : Mem w g xs) {j : Nat} (hj : j < xs.length) : w.cell? ⟨g, j, none⟩ = some xs[j] := (h j _ (List.getElem?_eq_getElem hj)).1
theorem Mem.free (h : Mem w g xs) {j : Nat} (hj : j < xs.length) : w.frozen? ⟨g, j, none⟩ = false := (h j _ (List.getElem?_eq_getElem hj)).2
theorem Mem.set_ (h : Mem w g xs) (j : Nat) (u : Value) : Mem (w.setCell ⟨g, j, none⟩ u) g (xs.set j u) := by
  intro i v hv
  rw [List.getElem?_set] at hv
  by_cases hij : j = i
  · subst hij
    rw [if_pos rfl] at hv
    split at hv
    · injection hv with hv; subst hv
      rename_i hl
      have := h.get hl
      exact ⟨World.cell?_setCell_same _ _ _ this, by rw [World.frozen?_setCell]; exact h.free hl⟩
    · cases hv
  · rw [if_neg hij] at hv
    refine ⟨?_, by rw [World.frozen?_setCell]; exact (h i v hv).2⟩
    rw [World.cell?_setCell_other _ _ _ _ (fun e => hij (by injection e))]
    exact (h i v hv).1
theorem Mem.drewN (h : Mem w g xs) (n : Nat) : Mem (w.drewN n) g xs := h
theorem Mem.below {B : Nat} (h : Mem w g xs) (hb : Below B w w') (hg : g < B) : Mem w' g xs := fun j v hv => by
  have := h j v hv
  exact ⟨(hb.cell (p := ⟨g, j, none⟩) hg).trans this.1, (hb.frozen (p := ⟨g, j, none⟩) hg).trans this.2⟩
theorem Mem.far (h : Mem w g xs) {row : Option Nat} (hg : w.grownBy w' row) (hlt : g < w.heap.size) (hne : some g ≠ row) : Mem w' g xs := fun j v hv => by
  have := h j v hv
  have hb := hg.block g hlt hne
  exact ⟨(World.cell?_of_block (a := ⟨g, j, none⟩) hb).trans this.1, (World.frozen?_of_block (a := ⟨g, j, none⟩) hb).trans this.2⟩
theorem Mem.of_own {base : Nat} {e : TypeId} {n cap : Nat} (h : w.ownsRow base e 1 (.slice (some ⟨g, 0, none⟩) n cap) n xs) : Mem w g xs := fun j v hv => by
  have hl : j < xs.length := (List.getElem?_eq_some_iff.1 hv).1
  have := h.1
  exact ⟨by rw [h.cellAt j (by omega)]; exact hv, h.frozenAt j⟩
theorem Mem.congr {ys : List Value} (h : Mem w g xs) (e : xs = ys) : Mem w g ys := e ▸ h
end

/-- bytes as cells -/
def u8s (l : List UInt8) : List Value := l.map fun b => .int .u8 (b.toNat : Int)
theorem u8s_length (l : List UInt8) : (u8s l).length = l.length := by simp [u8s]
theorem u8s_set (l : List UInt8) (j : Nat) (c : UInt8) : (u8s l).set j (.int .u8 (c.toNat : Int)) = u8s (l.set j c) := by simp [u8s, List.map_set]
theorem u8s_replicate (n : Nat) : List.replicate n (Value.int .u8 0) = u8s (List.replicate n 0) := by simp [u8s]
theorem u8s_get (l : List UInt8) (j : Nat) (h : j < l.length) : (u8s l)[j]'(by rw [u8s_length]; exact h) = .int .u8 (l[j].toNat : Int) := by simp [u8s]

theorem Mem.byte {w : World} {g : Nat} {l : List UInt8} (h : Mem w g (u8s l)) {j : Nat} (hj : j < l.length) : w.cell? ⟨g, j, none⟩ = some (.int .u8 (l[j].toNat : Int)) := by
  rw [h.get (by rw [u8s_length]; exact hj), u8s_get]
theorem Mem.back {P : Program} {w : World} {g : Nat} {l : List UInt8} (h : Mem w g (u8s l)) (src dst e : TypeId) (n cap : Nat) (hn : n = l.length) (hs : P.underlying src = some (.slice e)) (he : P.underlying e = some (.int .u8)) (hd : P.underlying dst = some .string) :
    (convert src dst (.slice (some ⟨g, 0, none⟩) n cap)).run P w = .ok (.string (mkS l)) w := by
  subst hn
  exact run_convert_bytes_back w src dst e ⟨g, 0, none⟩ cap l hs he hd fun j hj => by rw [add_zero_none]; exact h.byte hj

/-- the world behind '[]byte(s)', by what is known of it -/
theorem bytes_made2 {P : Program} (w : World) (src dst e : TypeId) (s : ByteArray) (hs : P.underlying src = some .string) (hd : P.underlying dst = some (.slice e)) (he : P.underlying e = some (.int .u8)) :
    ∃ cap w', (convert src dst (.string s)).run P w = .ok (.slice (some ⟨w.heap.size, 0, none⟩) s.size cap) w' ∧ Mem w' w.heap.size (u8s (bs s)) ∧ Below w.heap.size w w' ∧ w.heap.size < w'.heap.size ∧ s.size ≤ cap ∧ (s.size ≤ maxLen → cap ≤ maxLen) := by
  refine ⟨_, _, run_bytes_of_string w src dst e s hs hd he, ?_, ?_, ?_, grownCap_ge _ _ _ _, grownCap_le_maxLen _ _ _ _⟩
  · intro j v hv
    have hl : j < (bs s).length := by have := (List.getElem?_eq_some_iff.1 hv).1; rwa [u8s_length] at this
    have hl' : j < s.size := by rwa [size_bs] at hl
    have hz : (bytesRow s (grownCap w s.size 0 e)).size = s.size + (grownCap w s.size 0 e - s.size) := by simp [bytesRow]
    have h1 := World.cell?_alloc_mark w.drew (bytesRow s (grownCap w s.size 0 e)) e ((bytesRow s (grownCap w s.size 0 e)).size, (bytesRow s (grownCap w s.size 0 e)).size + 1) j
    have h2 := World.frozen?_alloc_mark w.drew (bytesRow s (grownCap w s.size 0 e)) e (bytesRow s (grownCap w s.size 0 e)).size ((bytesRow s (grownCap w s.size 0 e)).size + 1) j
    refine ⟨h1.trans ?_, h2.trans ?_⟩
    · rw [← hv]
      unfold bytesRow
      rw [Array.getElem?_append_left (by simpa using hl')]
      simp [u8s, bs]
    · rw [hz]; simp; omega
  · exact ((Below.refl _ _).drew).alloc (Nat.le_refl _) _
  · simp

theorem bytes_made {P : Program} (w : World) (src dst e : TypeId) (s : ByteArray) (hs : P.underlying src = some .string) (hd : P.underlying dst = some (.slice e)) (he : P.underlying e = some (.int .u8)) :
    ∃ cap w', (convert src dst (.string s)).run P w = .ok (.slice (some ⟨w.heap.size, 0, none⟩) s.size cap) w' ∧ Mem w' w.heap.size (u8s (bs s)) ∧ Below w.heap.size w w' ∧ w.heap.size < w'.heap.size := by
  obtain ⟨cap, w', h1, h2, h3, h4, _⟩ := bytes_made2 (P := P) w src dst e s hs hd he
  exact ⟨cap, w', h1, h2, h3, h4⟩

theorem below_alloc (w : World) (o : Obj) : Below w.heap.size w (w.alloc o) := (Below.refl _ _).alloc (Nat.le_refl _) _
theorem below_drewN' {B : Nat} {a w : World} (h : Below B a w) (n : Nat) : Below B a (w.drewN n) := ⟨h.os, h.tape, h.output, h.size, h.block⟩

/-- the world behind 'make([]byte, n)' -/
theorem make_bytes {P : Program} (w : World) (t e : TypeId) (ht : P.underlying t = some (.slice e)) (hi : (P.info? e).map (fun i => (i.zero, i.size, i.bytes)) = some (some (.int .u8 0), 1, 1)) (n : Nat) (hn : n ≤ 281474976710656) :
    ∃ w', (Instr.makeSlice t (.int .i64 (n : Int)) (.int .i64 (n : Int))).run P w = .ok (.slice (some ⟨w.heap.size, 0, none⟩) n n) w' ∧ Mem w' w.heap.size (u8s (List.replicate n 0)) ∧ Below w.heap.size w w' ∧ w.heap.size < w'.heap.size := by
  obtain ⟨i, hi0, hz0, hz1, hz2⟩ := info_parts hi
  have h63 : (n : Int) ≤ 9223372036854775807 := by omega
  have hb : (i.bytes : Int) * (n : Int) ≤ 281474976710656 := by rw [hz2]; omega
  have hr := run_make (P := P) w t e i _ ht hi0 hz0 .i64 .i64 n n (by omega) (Int.le_refl _) hb h63
  simp only [Int.toNat_natCast, hz1, Nat.mul_one] at hr
  have ho : (w.alloc (.cells (madeCells #[Value.int .u8 0] n) e)).ownsRow 0 e 1 (.slice (some ⟨w.heap.size, 0, none⟩) n n) n (madeCells #[Value.int .u8 0] n).toList :=
    World.ownsRow_lit w _ n (Nat.zero_le _) (by unfold maxLen; omega) (by simp [size_madeCells])
  refine ⟨_, hr, ?_, below_alloc _ _, by simp⟩
  have := Mem.of_own ho
  rw [toList_madeCells_one, u8s_replicate] at this
  exact this

/-- a list filled up to place k -/
def fillTo {α : Type} (t : List α) (z : α) (k : Nat) : List α := t.take k ++ List.replicate (t.length - k) z
theorem fillTo_zero {α : Type} (t : List α) (z : α) : fillTo t z 0 = List.replicate t.length z := by simp [fillTo]
theorem fillTo_all {α : Type} (t : List α) (z : α) : fillTo t z t.length = t := by simp [fillTo]
theorem fillTo_length {α : Type} (t : List α) (z : α) {k : Nat} (hk : k ≤ t.length) : (fillTo t z k).length = t.length := by simp [fillTo]; omega
theorem fillTo_set {α : Type} (t : List α) (z : α) {k : Nat} (hk : k < t.length) : (fillTo t z k).set k t[k] = fillTo t z (k + 1) := by
  unfold fillTo
  obtain ⟨m, hm⟩ : ∃ m, t.length - k = m + 1 := ⟨t.length - k - 1, by omega⟩
  have hm' : t.length - (k + 1) = m := by omega
  rw [hm, hm', List.take_succ_eq_append_getElem hk, List.replicate_succ, List.set_append_right _ _ (by simp; omega)]
  have : k - (t.take k).length = 0 := by simp; omega
  rw [this]
  simp only [List.set_cons_zero, List.append_assoc, List.cons_append, List.nil_append]
end Go.Proofs.Ytgpjbmlemnjhfaa
