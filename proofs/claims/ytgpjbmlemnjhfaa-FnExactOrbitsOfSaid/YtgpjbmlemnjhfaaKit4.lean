/- append of a whole slice, whatever its address. -/
import Derived.Test.YtgpjbmlemnjhfaaKit3
namespace Go.Proofs.Ytgpjbmlemnjhfaa
open Go.RowKit

theorem run_append_of_nil {P : Program} (w : World) (base : Nat) (t ty e : TypeId) (i : TypeInfo) (size : Nat) (ht : P.underlying t = some (.slice e)) (hi : P.info? e = some i)
    (v : Value) (n : Nat) (xs : List Value) (hown : w.ownsRow base e size v n xs) (c : Nat) : (Builtin.append_ #[t, t] ty #[v, .slice none 0 c]).run P w = .ok v w := by
  rcases hown.2 with ⟨rfl, rfl⟩ | ⟨g, cap, cur, rfl, _, _, hnc, _⟩
  · simp [Builtin.append_, run_underlying ht, sizeOf, typeInfo, hi, Builtin.lenOf, Builtin.firstCells]
  · simp [Builtin.append_, run_underlying ht, sizeOf, typeInfo, hi, Builtin.lenOf, Builtin.firstCells, hnc, storeCells]
theorem own_shape {w : World} {lo : Nat} {e : TypeId} {v : Value} {n : Nat} {xs : List Value} (h : w.ownsRow lo e 1 v n xs) : ∃ A c, v = .slice A n c := by
  rcases h.2 with ⟨rfl, rfl⟩ | ⟨g, cap, cur, rfl, _⟩
  · exact ⟨_, _, rfl⟩
  · exact ⟨_, _, rfl⟩
/-- 'append(list, other...)': the run -/
theorem run_appendN {P : Program} (w : World) (t ty e : TypeId) (z : Value) (bytes : Nat) (ht : P.underlying t = some (.slice e)) (hi : (P.info? e).map (fun i => (i.zero, i.size, i.bytes)) = some (some z, 1, bytes)) (hzs : z.cells.size = 1)
    (B : Nat) (A : Option Addr) (n c : Nat) (xs : List Value) (hown : Own w e B w.heap.size A n c xs) (A2 : Option Addr) (m c2 : Nat) (ys : List Value) (hA2 : A2 = none → m = 0) (hr : Rd w A2 m ys) (hu : ∀ u ∈ ys, u.oneCell' = true)
    (hn : n + m ≤ 4294967296) (hby : bytes ≤ 24) (hB : B ≤ w.heap.size) :
    ∃ A' c' w', (Builtin.append_ #[t, t] ty #[.slice A n c, .slice A2 m c2]).run P w = .ok (.slice A' (n + m) c') w' ∧ Own w' e B w'.heap.size A' (n + m) c' (xs ++ ys) ∧ Wr B w.heap.size w w' ∧ w.heap.size ≤ w'.heap.size := by
  obtain ⟨i, hi0, hz0, hz1, hz2⟩ := info_parts hi
  have hb : (n + m) * bytes ≤ 4294967296 * 24 := Nat.mul_le_mul hn hby
  rcases A2 with _ | ad
  · obtain rfl := hA2 rfl
    have hys : ys = [] := List.eq_nil_of_length_eq_zero hr.1
    subst hys
    refine ⟨A, c, w, run_append_of_nil w B t ty e i 1 ht hi0 _ n xs hown.1 c2, by simpa using hown, Wr.refl _ _ _, Nat.le_refl _⟩
  · have hcells : ∀ j u, ys[j]? = some u → w.cell? (ad.add j) = some u := by
      intro j u hj
      rcases hr.2.2 with h0 | ⟨b, off, e', _, hc⟩
      · have hys : ys = [] := List.eq_nil_of_length_eq_zero (by have := hr.1; omega)
        subst hys; simp at hj
      · injection e' with e'; subst e'
        rw [Addr.add_lit]; exact hc j u hj
    obtain ⟨v', w', hrun, ho', hg, _, hat⟩ := run_append_own_at (P := P) w B t ty e i z 1 bytes ht hi0 hz0 hz1 hz2 hzs (by omega) _ n xs hown.1 ad m c2 ys (by have := hr.1; omega) hcells hu (by unfold maxLen; omega) (by omega) hB
    obtain ⟨A', c', rfl⟩ := own_shape ho'
    refine ⟨A', c', w', hrun, Own.of_row ho', ⟨hg.os, hg.tape, hg.output, hg.size, fun k hk ho2 => hg.block k hk ?_⟩, hg.size⟩
    intro e2
    have := hown.1.lt k e2.symm
    omega
theorem wpList_appendN {P : Program} (w : World) {ops : Array Oper} {rest : List Oper} {o : Oper} {a : Act} {Q : Exit → Act → World → Prop} (hgd : o.guard = none) (s x : Operand) (t : TypeId)
    (ho : o.op = .call { callee := .builtin .append, args := #[s, x], argTypes := #[t, t] })
    (e : TypeId) (z : Value) (bytes : Nat) (ht : P.underlying t = some (.slice e)) (hi : (P.info? e).map (fun i => (i.zero, i.size, i.bytes)) = some (some z, 1, bytes)) (hzs : z.cells.size = 1)
    (B : Nat) (A : Option Addr) (n c : Nat) (xs : List Value) (hs : a.eval s = .slice A n c) (hown : Own w e B w.heap.size A n c xs) (A2 : Option Addr) (m c2 : Nat) (ys : List Value) (hx : a.eval x = .slice A2 m c2) (hA2 : A2 = none → m = 0) (hr : Rd w A2 m ys) (hu : ∀ u ∈ ys, u.oneCell' = true)
    (hn : n + m ≤ 4294967296) (hby : bytes ≤ 24) (hB : B ≤ w.heap.size)
    (h : ∀ A' c' w', Own w' e B w'.heap.size A' (n + m) c' (xs ++ ys) → Wr B w.heap.size w w' → w.heap.size ≤ w'.heap.size → wpList P ops Q rest (a.put o.dst (.slice A' (n + m) c')) w') :
    wpList P ops Q (o :: rest) a w := by
  refine wpList_plain hgd fun K hK => ?_
  obtain ⟨A', c', w', hr, h2, h3, h4⟩ := run_appendN (P := P) w t o.type e z bytes ht hi hzs B A n c xs hown A2 m c2 ys hA2 hr hu hn hby hB
  unfold Oper.wp execOp
  simp only [ho, resolve, invoke, builtin, Sem.run_bind, Sem.run_pure, Result.andThen_ok, List.map_toArray, List.map_cons, List.map_nil, hs, hx, hr]
  exact hK _ _ (h A' c' w' h2 h3 h4)
theorem strs_one (ss : List ByteArray) : ∀ u ∈ strsV ss, u.oneCell' = true := fun u hu => by
  obtain ⟨x, _, rfl⟩ := List.mem_map.1 hu; rfl
theorem ints_one (ss : List Int) : ∀ u ∈ intsV ss, u.oneCell' = true := fun u hu => by
  obtain ⟨x, _, rfl⟩ := List.mem_map.1 hu; rfl
theorem strsV_app (x y : List ByteArray) : strsV (x ++ y) = strsV x ++ strsV y := by simp [strsV]
theorem intsV_app (x y : List Int) : intsV (x ++ y) = intsV x ++ intsV y := by simp [intsV]
theorem strsV_one (x : ByteArray) : strsV [x] = [.string x] := rfl
theorem intsV_one (x : Int) : intsV [x] = [.int .i64 x] := rfl
theorem Rd.none_ {w : World} {A : Option Addr} {n : Nat} {xs : List Value} (h : Rd w A n xs) : A = none → n = 0 := fun e => by
  rcases h.2.2 with h0 | ⟨b, off, e2, _⟩
  · exact h0
  · rw [e] at e2; cases e2
end Go.Proofs.Ytgpjbmlemnjhfaa
