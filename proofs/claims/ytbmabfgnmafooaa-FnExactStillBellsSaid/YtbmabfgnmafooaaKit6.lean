/- append of one element to a slice that is used again as it was. -/
import Derived.Test.YtbmabfgnmafooaaKit5
namespace Go.Proofs.Ytbmabfgnmafooaa
open Go.RowKit

theorem append_keeps {P : Program} (w : World) (base : Nat) (t ty e : TypeId) (i : TypeInfo) (z : Value) (size bytes : Nat) (ht : P.underlying t = some (.slice e)) (hi : P.info? e = some i) (hz : i.zero = some z)
    (hsize : i.size = size) (hby : i.bytes = bytes)
    (v : Value) (n : Nat) (xs : List Value) (hown : w.ownsRow base e size v n xs)
    (a : Addr) (m c : Nat) (news : List Value) (hl : news.length = m * size) (hnews : ∀ j u, news[j]? = some u → w.cell? (a.add j) = some u) (h1 : ∀ u ∈ news, u.oneCell' = true)
    (h63 : n + m ≤ maxLen) (hbytes : (n + m) * bytes ≤ 140737488355328) {v' : Value} {w' : World}
    (hr : (Builtin.append_ #[t, t] ty #[v, .slice (some a) m c]).run P w = .ok v' w') : w'.ownsRow base e size v n xs := by
  subst hsize
  subst hby
  refine ⟨hown.1, ?_⟩
  rcases hown.2 with h0 | ⟨g, cap, cur, rfl, hbg, hg, hnc, hcm, hcs, htake⟩
  · exact .inl h0
  · by_cases hroom : n + m ≤ cap
    · have hfit : n * i.size + news.length ≤ cur.size := by rw [hl, hcs, ← Nat.add_mul]; exact Nat.mul_le_mul_right _ hroom
      have hr2 := run_append_room (P := P) w t ty e i ht hi g n cap cur hg a m c news hl hnews h1 hroom hfit
      rw [hr] at hr2
      injection hr2 with _ hw
      subst hw
      have hxl : xs.length = n * i.size := hown.1
      refine .inr ⟨g, cap, _, rfl, hbg, setRow_heap w g cur _ e _ hg, hnc, hcm, ?_, ?_⟩
      · simp only [List.size_toArray, List.length_append, List.length_take, List.length_drop, Array.length_toList]
        omega
      · rw [htake, List.append_assoc, ← hxl]
        exact List.take_left
    · have holds : ∀ j u, xs[j]? = some u → w.cell? ((⟨g, 0, none⟩ : Addr).add j) = some u := hown.cells (g := g) rfl
      have hr2 := run_append_grow (P := P) w t ty e i z ht hi hz ⟨g, 0, none⟩ n cap xs hown.1 holds a m c news hl hnews (by omega) (by unfold maxLen at h63; omega) (growslice_fits (by omega) hbytes)
      rw [hr] at hr2
      injection hr2 with _ hw
      subst hw
      exact .inr ⟨g, cap, cur, rfl, hbg, (Below.heap_alloc w.drew _ g (Array.getElem?_eq_some_iff.1 hg).1).trans hg, hnc, hcm, hcs, htake⟩
/-- 'append(list, x)' at the operation: the new slice, the block named, and the old slice as it was -/
theorem wpList_append1k {P : Program} (w : World) {ops : Array Oper} {rest : List Oper} {o : Oper} {a : Act} {Q : Exit → Act → World → Prop} (hgd : o.guard = none) (s x : Operand) (t : TypeId)
    (ho : o.op = .call { callee := .builtin .append, args := #[s, x], argTypes := #[t, t] })
    (e : TypeId) (z : Value) (bytes : Nat) (ht : P.underlying t = some (.slice e)) (hi : (P.info? e).map (fun i => (i.zero, i.size, i.bytes)) = some (some z, 1, bytes)) (hzs : z.cells.size = 1)
    (B : Nat) (A : Option Addr) (n c : Nat) (xs : List Value) (u : Value) (hs : a.eval s = .slice A n c) (hx : a.eval x = .slice (some ⟨w.heap.size, 0, none⟩) 1 1) (hu : u.oneCell' = true)
    (hown : Own w e B w.heap.size A n c xs) (hn : n + 1 ≤ 4294967296) (hby : bytes ≤ 24) (hB : B ≤ w.heap.size)
    (h : ∀ A' c' w', Own w' e B w'.heap.size A' (n + 1) c' (xs ++ [u]) → Own w' e B w.heap.size A n c xs → Wx (Value.slice A n c).ownBlock w w' → w.heap.size < w'.heap.size → wpList P ops Q rest (a.put o.dst (.slice A' (n + 1) c')) w') :
    wpList P ops Q (o :: rest) a (w.alloc (.cells #[u] e)) := by
  obtain ⟨i, hi0, hz0, hz1, hz2⟩ := info_parts hi
  have hb : (n + 1) * bytes ≤ 4294967296 * 24 := Nat.mul_le_mul hn hby
  have hnews : ∀ j v, [u][j]? = some v → (w.alloc (.cells #[u] e)).cell? ((⟨w.heap.size, 0, none⟩ : Addr).add j) = some v := cell_one_new _ _ _
  obtain ⟨v', w', hr, ho', hg, _, hat⟩ := run_append_own_at (P := P) (w.alloc (.cells #[u] e)) B t o.type e i z 1 bytes ht hi0 hz0 hz1 hz2 hzs (by omega) _ n xs (hown.1.alloc _) ⟨w.heap.size, 0, none⟩ 1 1 [u] rfl hnews (by simpa using hu) (by unfold maxLen; omega) (by omega) (by simp; omega)
  have hk := append_keeps (P := P) (w.alloc (.cells #[u] e)) B t o.type e i z 1 bytes ht hi0 hz0 hz1 hz2 _ n xs (hown.1.alloc _) ⟨w.heap.size, 0, none⟩ 1 1 [u] rfl hnews (by simpa using hu) (by unfold maxLen; omega) (by omega) hr
  have hform : ∃ A' c', v' = .slice A' (n + 1) c' ∧ (∃ g, A' = some ⟨g, 0, none⟩) := by
    rcases ho'.2 with ⟨_, h0⟩ | ⟨g, cap, cur, e', _⟩
    · omega
    · exact ⟨_, _, e', g, rfl⟩
  obtain ⟨A', c', rfl, g, rfl⟩ := hform
  have hsz : w.heap.size < w'.heap.size := by have := hg.size; simp at this; omega
  refine wpList_plain hgd fun K hK => ?_
  unfold Oper.wp execOp
  simp only [ho, resolve, invoke, builtin, Sem.run_bind, Sem.run_pure, Result.andThen_ok, List.map_toArray, List.map_cons, List.map_nil, hs, hx, hr]
  refine hK _ _ (h _ c' w' (Own.of_row ho') ⟨hk, hown.2⟩ ⟨hg.os, hg.tape, hg.output, by omega, fun k hk ho2 => ?_⟩ hsz)
  exact (hg.block k (by simp; omega) ho2).trans (Below.heap_alloc _ _ _ hk)
end Go.Proofs.Ytbmabfgnmafooaa
