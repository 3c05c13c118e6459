/- append, with the one block that it may change named; slices of the call's own that stay while another one grows. -/
import Derived.Test.YtgpjbmlemnjhfaaKit4
namespace Go.Proofs.Ytgpjbmlemnjhfaa
open Go.RowKit

/-- only the block of one slice, and new ones, have turned -/
structure Wx (row : Option Nat) (w w' : World) : Prop where
  os : w'.os = w.os
  tape : w'.tape = w.tape
  output : w'.output = w.output
  size : w.heap.size ≤ w'.heap.size
  block : ∀ k, k < w.heap.size → some k ≠ row → w'.heap[k]? = w.heap[k]?
theorem Wx.rd {w w' : World} {row : Option Nat} {g off n : Nat} {xs : List Value} (h : Wx row w w') (hr : Rd w (some ⟨g, off, none⟩) n xs) (hne : some g ≠ row) : Rd w' (some ⟨g, off, none⟩) n xs := by
  refine ⟨hr.1, hr.2.1, ?_⟩
  rcases hr.2.2 with h0 | ⟨b, o, e, hb, hc⟩
  · exact .inl h0
  · injection e with e; injection e with e1 e2; subst e1 e2
    exact .inr ⟨g, off, rfl, Nat.lt_of_lt_of_le hb h.size, fun j v hv => (World.cell?_of_block (a := ⟨g, off + j, none⟩) (h.block g hb hne)).trans (hc j v hv)⟩
theorem Wx.below {w w' : World} {row : Option Nat} {B : Nat} (h : Wx row w w') (hB : ∀ g, row = some g → B ≤ g) (hB2 : B ≤ w.heap.size) : Below B w w' :=
  ⟨h.os, h.tape, h.output, h.size, fun k hk => h.block k (by omega) (fun e => by have := hB k e.symm; omega)⟩
theorem Wx.cell {w w' : World} {row : Option Nat} (h : Wx row w w') {p : Addr} (hp : p.block < w.heap.size) (hne : some p.block ≠ row) : w'.cell? p = w.cell? p :=
  World.cell?_of_block (h.block p.block hp hne)
theorem Wx.own {w w' : World} {row : Option Nat} {E : TypeId} {lo hi n c : Nat} {A : Option Addr} {xs : List Value} (h : Wx row w w') (ho : Own w E lo hi A n c xs) (hne : ∀ g, (Value.slice A n c).ownBlock = some g → some g ≠ row) : Own w' E lo hi A n c xs := by
  refine ⟨⟨ho.1.1, ?_⟩, ho.2⟩
  rcases ho.1.2 with h0 | ⟨g, cap, cur, e, hlo, hh, r⟩
  · exact .inl h0
  · have hg := ho.lt g (by rw [e]; simp [Value.ownBlock])
    exact .inr ⟨g, cap, cur, e, hlo, (h.block g hg.2.2 (hne g (by rw [e]; simp [Value.ownBlock]))).trans hh, r⟩

/-- 'append(list, x)' at the operation, with the block named -/
theorem wpList_append1x {P : Program} (w : World) {ops : Array Oper} {rest : List Oper} {o : Oper} {a : Act} {Q : Exit → Act → World → Prop} (hgd : o.guard = none) (s x : Operand) (t : TypeId)
    (ho : o.op = .call { callee := .builtin .append, args := #[s, x], argTypes := #[t, t] })
    (e : TypeId) (z : Value) (bytes : Nat) (ht : P.underlying t = some (.slice e)) (hi : (P.info? e).map (fun i => (i.zero, i.size, i.bytes)) = some (some z, 1, bytes)) (hzs : z.cells.size = 1)
    (B : Nat) (A : Option Addr) (n c : Nat) (xs : List Value) (u : Value) (hs : a.eval s = .slice A n c) (hx : a.eval x = .slice (some ⟨w.heap.size, 0, none⟩) 1 1) (hu : u.oneCell' = true)
    (hown : Own w e B w.heap.size A n c xs) (hn : n + 1 ≤ 4294967296) (hby : bytes ≤ 24) (hB : B ≤ w.heap.size)
    (h : ∀ A' c' w', Own w' e B w'.heap.size A' (n + 1) c' (xs ++ [u]) → Wx (Value.slice A n c).ownBlock w w' → w.heap.size < w'.heap.size → ((Value.slice A' (n + 1) c').ownBlock = (Value.slice A n c).ownBlock ∨ ∃ g, A' = some ⟨g, 0, none⟩ ∧ w.heap.size ≤ g) → wpList P ops Q rest (a.put o.dst (.slice A' (n + 1) c')) w') :
    wpList P ops Q (o :: rest) a (w.alloc (.cells #[u] e)) := by
  obtain ⟨i, hi0, hz0, hz1, hz2⟩ := info_parts hi
  have hb : (n + 1) * bytes ≤ 4294967296 * 24 := Nat.mul_le_mul hn hby
  refine wpList_append_own_at (w.alloc (.cells #[u] e)) hgd s x t ho B e i z 1 bytes ht hi0 hz0 hz1 hz2 hzs (by omega) _ n xs hs (hown.1.alloc _) ⟨w.heap.size, 0, none⟩ 1 1 [u] hx rfl (cell_one_new _ _ _) (by simpa using hu) (by unfold maxLen; omega) (by omega) (by simp; omega) ?_
  intro v' w' ho' hg _ hat
  have hform : ∃ A' c', v' = .slice A' (n + 1) c' ∧ (∃ g, A' = some ⟨g, 0, none⟩) := by
    rcases ho'.2 with ⟨_, h0⟩ | ⟨g, cap, cur, e', _⟩
    · omega
    · exact ⟨_, _, e', g, rfl⟩
  obtain ⟨A', c', rfl, g, rfl⟩ := hform
  have hsz : w.heap.size < w'.heap.size := by have := hg.size; simp at this; omega
  refine h _ c' w' (Own.of_row ho') ⟨hg.os, hg.tape, hg.output, by omega, fun k hk ho2 => ?_⟩ hsz ?_
  · exact (hg.block k (by simp; omega) ho2).trans (Below.heap_alloc _ _ _ hk)
  · rcases hat with e1 | e1
    · exact .inl e1
    · refine .inr ⟨g, rfl, ?_⟩
      simp [Value.ownBlock] at e1
      omega
/-- 'append(list, other...)': the run, with the block named -/
theorem run_appendNx {P : Program} (w : World) (t ty e : TypeId) (z : Value) (bytes : Nat) (ht : P.underlying t = some (.slice e)) (hi : (P.info? e).map (fun i => (i.zero, i.size, i.bytes)) = some (some z, 1, bytes)) (hzs : z.cells.size = 1)
    (B : Nat) (A : Option Addr) (n c : Nat) (xs : List Value) (hown : Own w e B w.heap.size A n c xs) (A2 : Option Addr) (m c2 : Nat) (ys : List Value) (hA2 : A2 = none → m = 0) (hr : Rd w A2 m ys) (hu : ∀ u ∈ ys, u.oneCell' = true)
    (hn : n + m ≤ 4294967296) (hby : bytes ≤ 24) (hB : B ≤ w.heap.size) :
    ∃ A' c' w', (Builtin.append_ #[t, t] ty #[.slice A n c, .slice A2 m c2]).run P w = .ok (.slice A' (n + m) c') w' ∧ Own w' e B w'.heap.size A' (n + m) c' (xs ++ ys) ∧ Wx (Value.slice A n c).ownBlock w w' ∧ ((Value.slice A' (n + m) c').ownBlock = (Value.slice A n c).ownBlock ∨ ∃ g, A' = some ⟨g, 0, none⟩ ∧ w.heap.size ≤ g) := by
  obtain ⟨i, hi0, hz0, hz1, hz2⟩ := info_parts hi
  have hb : (n + m) * bytes ≤ 4294967296 * 24 := Nat.mul_le_mul hn hby
  rcases A2 with _ | ad
  · obtain rfl := hA2 rfl
    have hys : ys = [] := List.eq_nil_of_length_eq_zero hr.1
    subst hys
    refine ⟨A, c, w, run_append_of_nil w B t ty e i 1 ht hi0 _ n xs hown.1 c2, by simpa using hown, ⟨rfl, rfl, rfl, Nat.le_refl _, fun _ _ _ => rfl⟩, .inl ?_⟩
    cases A <;> rfl
  · have hcells : ∀ j u, ys[j]? = some u → w.cell? (ad.add j) = some u := by
      intro j u hj
      rcases hr.2.2 with h0 | ⟨b, off, e', _, hc⟩
      · have hys : ys = [] := List.eq_nil_of_length_eq_zero (by have := hr.1; omega)
        subst hys; simp at hj
      · injection e' with e'; subst e'
        rw [Addr.add_lit]; exact hc j u hj
    obtain ⟨v', w', hrun, ho', hg, _, hat⟩ := run_append_own_at (P := P) w B t ty e i z 1 bytes ht hi0 hz0 hz1 hz2 hzs (by omega) _ n xs hown.1 ad m c2 ys (by have := hr.1; omega) hcells hu (by unfold maxLen; omega) (by omega) hB
    obtain ⟨A', c', rfl⟩ := own_shape ho'
    refine ⟨A', c', w', hrun, Own.of_row ho', ⟨hg.os, hg.tape, hg.output, hg.size, fun k hk ho2 => hg.block k hk ho2⟩, ?_⟩
    rcases hat with e1 | e1
    · exact .inl e1
    · rcases A' with _ | ⟨g, off, sp⟩
      · simp [Value.ownBlock] at e1
      · rcases ho'.2 with ⟨e2, _⟩ | ⟨g2, cap, cur, e2, _⟩
        · cases e2
        · injection e2 with e2 e3 e4
          injection e2 with e2; injection e2 with e5 e6 e7
          subst e5 e6 e7
          refine .inr ⟨g, rfl, ?_⟩
          simp [Value.ownBlock] at e1
          omega
theorem wpList_appendNx {P : Program} (w : World) {ops : Array Oper} {rest : List Oper} {o : Oper} {a : Act} {Q : Exit → Act → World → Prop} (hgd : o.guard = none) (s x : Operand) (t : TypeId)
    (ho : o.op = .call { callee := .builtin .append, args := #[s, x], argTypes := #[t, t] })
    (e : TypeId) (z : Value) (bytes : Nat) (ht : P.underlying t = some (.slice e)) (hi : (P.info? e).map (fun i => (i.zero, i.size, i.bytes)) = some (some z, 1, bytes)) (hzs : z.cells.size = 1)
    (B : Nat) (A : Option Addr) (n c : Nat) (xs : List Value) (hs : a.eval s = .slice A n c) (hown : Own w e B w.heap.size A n c xs) (A2 : Option Addr) (m c2 : Nat) (ys : List Value) (hx : a.eval x = .slice A2 m c2) (hA2 : A2 = none → m = 0) (hr : Rd w A2 m ys) (hu : ∀ u ∈ ys, u.oneCell' = true)
    (hn : n + m ≤ 4294967296) (hby : bytes ≤ 24) (hB : B ≤ w.heap.size)
    (h : ∀ A' c' w', Own w' e B w'.heap.size A' (n + m) c' (xs ++ ys) → Wx (Value.slice A n c).ownBlock w w' → ((Value.slice A' (n + m) c').ownBlock = (Value.slice A n c).ownBlock ∨ ∃ g, A' = some ⟨g, 0, none⟩ ∧ w.heap.size ≤ g) → wpList P ops Q rest (a.put o.dst (.slice A' (n + m) c')) w') :
    wpList P ops Q (o :: rest) a w := by
  refine wpList_plain hgd fun K hK => ?_
  obtain ⟨A', c', w', hr, h2, h3, h4⟩ := run_appendNx (P := P) w t o.type e z bytes ht hi hzs B A n c xs hown A2 m c2 ys hA2 hr hu hn hby hB
  unfold Oper.wp execOp
  simp only [ho, resolve, invoke, builtin, Sem.run_bind, Sem.run_pure, Result.andThen_ok, List.map_toArray, List.map_cons, List.map_nil, hs, hx, hr]
  exact hK _ _ (h A' c' w' h2 h3 h4)
/-- the same at a step of a region that draws its order -/
theorem step_appendNx {P : Program} (w : World) {ops : Array Oper} {o : Oper} {a : Act} {K : Act → World → Prop} {Q : Exit → Act → World → Prop} {E : Prop} (hgd : o.guard = none) (s x : Operand) (t : TypeId)
    (ho : o.op = .call { callee := .builtin .append, args := #[s, x], argTypes := #[t, t] })
    (e : TypeId) (z : Value) (bytes : Nat) (ht : P.underlying t = some (.slice e)) (hi : (P.info? e).map (fun i => (i.zero, i.size, i.bytes)) = some (some z, 1, bytes)) (hzs : z.cells.size = 1)
    (B : Nat) (A : Option Addr) (n c : Nat) (xs : List Value) (hs : a.eval s = .slice A n c) (hown : Own w e B w.heap.size A n c xs) (A2 : Option Addr) (m c2 : Nat) (ys : List Value) (hx : a.eval x = .slice A2 m c2) (hA2 : A2 = none → m = 0) (hr : Rd w A2 m ys) (hu : ∀ u ∈ ys, u.oneCell' = true)
    (hn : n + m ≤ 4294967296) (hby : bytes ≤ 24) (hB : B ≤ w.heap.size)
    (h : ∀ A' c' w', Own w' e B w'.heap.size A' (n + m) c' (xs ++ ys) → Wx (Value.slice A n c).ownBlock w w' → ((Value.slice A' (n + m) c').ownBlock = (Value.slice A n c).ownBlock ∨ ∃ g, A' = some ⟨g, 0, none⟩ ∧ w.heap.size ≤ g) → K (a.put o.dst (.slice A' (n + m) c')) w') :
    if Region.wanted o (yielded ops a.tmps) = true then Oper.wp P o a w K Q else E := by
  have hw : Region.wanted o (yielded ops a.tmps) = true := by simp [Region.wanted, hgd]
  rw [if_pos hw]
  obtain ⟨A', c', w', hr, h2, h3, h4⟩ := run_appendNx (P := P) w t o.type e z bytes ht hi hzs B A n c xs hown A2 m c2 ys hA2 hr hu hn hby hB
  unfold Oper.wp execOp
  simp only [ho, resolve, invoke, builtin, Sem.run_bind, Sem.run_pure, Result.andThen_ok, List.map_toArray, List.map_cons, List.map_nil, hs, hx, hr]
  exact h A' c' w' h2 h3 h4
theorem Rd.takeV {w : World} {A : Option Addr} {n m : Nat} {xs : List Value} (h : Rd w A n xs) (hm : m ≤ n) : Rd w A m (xs.take m) := by
  refine ⟨by rw [List.length_take, h.1]; omega, Nat.le_trans hm h.2.1, ?_⟩
  rcases h.2.2 with h0 | ⟨b, off, e, hb, hc⟩
  · exact .inl (by omega)
  · refine .inr ⟨b, off, e, hb, fun j v hv => hc j v ?_⟩
    rw [List.getElem?_take] at hv
    split at hv
    · exact hv
    · cases hv
/-- a growing slice stays away from another block -/
def Off (A : Option Addr) (n c g : Nat) : Prop := ∀ k, (Value.slice A n c).ownBlock = some k → k ≠ g
theorem Off.next {w : World} {A A' : Option Addr} {n c n' c' g : Nat} (h : Off A n c g) (hg : g < w.heap.size) (hat : (Value.slice A' n' c').ownBlock = (Value.slice A n c).ownBlock ∨ ∃ k, A' = some ⟨k, 0, none⟩ ∧ w.heap.size ≤ k) : Off A' n' c' g := by
  intro k hk
  rcases hat with e | ⟨k2, rfl, h2⟩
  · exact h k (e ▸ hk)
  · simp [Value.ownBlock] at hk; omega
theorem Off.ne {A : Option Addr} {n c g : Nat} (h : Off A n c g) : some g ≠ (Value.slice A n c).ownBlock := fun e => h g e.symm rfl
theorem Own.below_ {w : World} {E : TypeId} {lo hi n c : Nat} {A : Option Addr} {xs : List Value} (h : Own w E lo hi A n c xs) {w' : World} (hx : Wx (Value.slice A n c).ownBlock w w') (hl : lo ≤ w.heap.size) : Below lo w w' :=
  hx.below (fun g e => (h.lt g e).1) hl
theorem Off.own {w : World} {E : TypeId} {lo hi n c g : Nat} {A : Option Addr} {xs : List Value} (h : Own w E lo hi A n c xs) (hg : g < lo ∨ hi ≤ g) : Off A n c g := fun k hk => by have := h.lt k hk; omega
end Go.Proofs.Ytgpjbmlemnjhfaa
