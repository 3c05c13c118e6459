/- Slices of bools of the call's own. -/
import Derived.Test.YtgpjbmlemnjhfaaKit5
import Derived.Test.YtgpjbmlemnjhfaaWalkI
namespace Go.Proofs.Ytgpjbmlemnjhfaa
open Go.RowKit
set_option linter.unusedVariables false

def boolsV (l : List Bool) : List Value := l.map .bool
theorem boolsV_len (l : List Bool) : (boolsV l).length = l.length := by simp [boolsV]
theorem boolsV_set (l : List Bool) (j : Nat) (b : Bool) : (boolsV l).set j (.bool b) = boolsV (l.set j b) := by simp [boolsV, List.map_set]
theorem wx_set (w : World) (b r : Nat) (u : Value) : Wx (some b) w (w.setCell ⟨b, r, none⟩ u) :=
  ⟨rfl, rfl, rfl, by simp, fun k hk hne => Below.heap_setCell _ _ _ _ (by
    have : k ≠ b := fun e => hne (by rw [e])
    first | exact this | exact this.symm)⟩
theorem Own.boolAt {w : World} {E : TypeId} {lo hi g n c : Nat} {l : List Bool} (h : Own w E lo hi (some ⟨g, 0, none⟩) n c (boolsV l)) {j : Nat} {q : Bool} (hj : l[j]? = some q) : w.cell? ⟨g, j, none⟩ = some (.bool q) ∧ w.frozen? ⟨g, j, none⟩ = false := by
  refine h.mem j _ ?_
  unfold boolsV
  rw [List.getElem?_map, hj]; rfl
theorem info_bool : (Try.prog.info? 4).map (fun i => (i.zero, i.size, i.bytes)) = some (some (.bool false), 1, 1) := by kernel_rfl
theorem wpList_append1y {P : Program} (w : World) {ops : Array Oper} {rest : List Oper} {o : Oper} {a : Act} {Q : Exit → Act → World → Prop} (hgd : o.guard = none) (s x : Operand) (t : TypeId)
    (ho : o.op = .call { callee := .builtin .append, args := #[s, x], argTypes := #[t, t] })
    (e : TypeId) (z : Value) (bytes : Nat) (ht : P.underlying t = some (.slice e)) (hi : (P.info? e).map (fun i => (i.zero, i.size, i.bytes)) = some (some z, 1, bytes)) (hzs : z.cells.size = 1)
    (B : Nat) (A : Option Addr) (n c : Nat) (xs : List Value) (u : Value) (hs : a.eval s = .slice A n c) (g0 : Nat) (hg0 : g0 = w.heap.size) (hx : a.eval x = .slice (some ⟨g0, 0, none⟩) 1 1) (hu : u.oneCell' = true)
    (hown : Own w e B w.heap.size A n c xs) (hn : n + 1 ≤ 4294967296) (hby : bytes ≤ 24) (hB : B ≤ w.heap.size)
    (h : ∀ A' c' w', Own w' e B w'.heap.size A' (n + 1) c' (xs ++ [u]) → Wx (Value.slice A n c).ownBlock w w' → w.heap.size < w'.heap.size → ((Value.slice A' (n + 1) c').ownBlock = (Value.slice A n c).ownBlock ∨ ∃ g, A' = some ⟨g, 0, none⟩ ∧ w.heap.size ≤ g) → wpList P ops Q rest (a.put o.dst (.slice A' (n + 1) c')) w') :
    wpList P ops Q (o :: rest) a (w.alloc (.cells #[u] e)) :=
  wpList_append1x w hgd s x t ho e z bytes ht hi hzs B A n c xs u hs (hx.trans (by rw [hg0])) hu hown hn hby hB h
end Go.Proofs.Ytgpjbmlemnjhfaa
