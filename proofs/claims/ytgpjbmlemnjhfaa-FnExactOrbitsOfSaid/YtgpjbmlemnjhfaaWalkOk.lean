/- OrbitsOf: the reference's memory and small functions. -/
import Derived.Test.YtgpjbmlemnjhfaaWalkOi
import Derived.BigQuiet
namespace Go.Proofs.Ytgpjbmlemnjhfaa
open Go.RowKit
set_option linter.unusedVariables false

/-- the labels of the places, as they lie in memory -/
def lst (m : Nat) (F : Nat → Nat) : List Int := (List.range (m + 1)).map fun q => (F q : Int)
theorem lst_len (m : Nat) (F : Nat → Nat) : (lst m F).length = m + 1 := by simp [lst]
theorem lst_get {m p : Nat} (F : Nat → Nat) (h : p ≤ m) : (lst m F)[p]? = some (F p : Int) := by
  unfold lst
  rw [List.getElem?_map, List.getElem?_range (by omega)]; rfl
theorem lst_upd {m p : Nat} (g F : Nat → Nat) {v : Int} (hv : v = ((min (F p) (F (g p)) : Nat) : Int)) : ((lst m F).set p v).set (g p) v = lst m (updF g F p) := by
  apply List.ext_getElem?
  intro q
  by_cases hq : q ≤ m
  · rw [lst_get _ hq, List.getElem?_set, List.length_set, lst_len, List.getElem?_set, lst_len, lst_get _ hq]
    unfold updF
    by_cases h1 : g p = q
    · subst h1
      rw [if_pos rfl, if_pos (by omega), if_pos (.inr rfl), hv]
    · rw [if_neg h1]
      by_cases h2 : p = q
      · subst h2
        rw [if_pos rfl, if_pos (by omega), if_pos (.inl rfl), hv]
      · rw [if_neg h2, if_neg (fun h => by rcases h with h | h; exact h2 h.symm; exact h1 h.symm)]
  · rw [List.getElem?_eq_none (by rw [List.length_set, List.length_set, lst_len]; omega), List.getElem?_eq_none (by rw [lst_len]; omega)]
theorem intsV_set (l : List Int) (j : Nat) (v : Int) : (intsV l).set j (.int .i64 v) = intsV (l.set j v) := by simp [intsV, List.map_set]
/-- the places themselves, written as far as place k -/
def fil (m k : Nat) : List Int := ((List.range k).map fun q : Nat => (q : Int)) ++ List.replicate (m + 1 - k) 0
theorem fil_set {m k : Nat} (h : k ≤ m) : (fil m k).set k (k : Int) = fil m (k + 1) := by
  unfold fil
  rw [List.set_append_right _ _ (by simp), List.range_succ, List.map_append, List.append_assoc]
  congr 1
  rw [show m + 1 - k = (m + 1 - (k + 1)) + 1 by omega, List.replicate_succ]
  simp
theorem fil_len {m k : Nat} (h : k ≤ m + 1) : (fil m k).length = m + 1 := by simp [fil]; omega
theorem fil_all (m : Nat) : fil m (m + 1) = lst m fun p => p := by simp [fil, lst]
theorem intsV_at {w : World} {E : TypeId} {lo hi g n c k : Nat} {x : Int} {l : List Int} (h : Own w E lo hi (some ⟨g, 0, none⟩) n c (intsV l)) (hk : l[k]? = some x) : w.cell? ⟨g, k, none⟩ = some (.int .i64 x) ∧ w.frozen? ⟨g, k, none⟩ = false :=
  h.mem k _ (by unfold intsV; rw [List.getElem?_map, hk]; rfl)
/-- the labels in the call's own memory -/
structure PT (W w : World) (m : Nat) (F : Nat → Nat) : Prop where
  o : Own w 3 W.heap.size w.heap.size (some ⟨W.heap.size, 0, none⟩) (m + 1) (m + 1) (intsV (lst m F))
  lt : W.heap.size < w.heap.size
  b : Below W.heap.size W w
theorem PT.at_ {W w : World} {m p : Nat} {F : Nat → Nat} (h : PT W w m F) (hp : p ≤ m) : w.cell? ⟨W.heap.size, p, none⟩ = some (.int .i64 (F p : Int)) ∧ w.frozen? ⟨W.heap.size, p, none⟩ = false := intsV_at h.o (lst_get F hp)
theorem PT.upd {W w : World} {m p : Nat} {g F : Nat → Nat} (h : PT W w m F) (nq : Nat) (v : Int) (hv : v = ((min (F p) (F (g p)) : Nat) : Int)) :
    PT W (((w.drewN nq).setCell ⟨W.heap.size, p, none⟩ (.int .i64 v)).setCell ⟨W.heap.size, g p, none⟩ (.int .i64 v)) m (updF g F p) := by
  refine ⟨?_, by simpa using h.lt, ((below_drewN' h.b nq).setCell (Nat.le_refl _) _).setCell (Nat.le_refl _) _⟩
  have h2 := ((h.o.drewN nq).set_ p (.int .i64 v)).set_ (g p) (.int .i64 v)
  rw [intsV_set, intsV_set, lst_upd g F hv] at h2
  exact h2.mono (Nat.le_refl _) (by simp)
/-- behind the first of the two stores -/
theorem PT.mid {W w : World} {m p q : Nat} {F : Nat → Nat} (h : PT W w m F) (nq : Nat) (v : Int) (hq : q ≤ m) : ∃ u, ((w.drewN nq).setCell ⟨W.heap.size, p, none⟩ (.int .i64 v)).cell? ⟨W.heap.size, q, none⟩ = some u ∧ ((w.drewN nq).setCell ⟨W.heap.size, p, none⟩ (.int .i64 v)).frozen? ⟨W.heap.size, q, none⟩ = false := by
  have h2 := (h.o.drewN nq).set_ p (.int .i64 v)
  rw [intsV_set] at h2
  have hl : q < ((lst m F).set p v).length := by rw [List.length_set, lst_len]; omega
  exact ⟨_, intsV_at h2 (List.getElem?_eq_getElem hl)⟩
/-- the places of a label among the first p -/
def clsT (L : Nat → Nat) (mm p : Nat) : List Nat := ((List.range p).map (· + 1)).filter fun q => L q == mm
theorem clsT_all (m : Nat) (L : Nat → Nat) (mm : Nat) : clsT L mm m = clsL m L mm := rfl
theorem clsT_succ (L : Nat → Nat) (mm p : Nat) : clsT L mm (p + 1) = if L (p + 1) = mm then clsT L mm p ++ [p + 1] else clsT L mm p := by
  unfold clsT
  rw [List.range_succ, List.map_append, List.filter_append]
  simp only [List.map_cons, List.map_nil, List.filter_cons, List.filter_nil]
  split <;> split <;> simp_all
theorem clsT_len (L : Nat → Nat) (mm p : Nat) : (clsT L mm p).length ≤ p := by
  unfold clsT
  exact Nat.le_trans (List.length_filter_le _ _) (by simp)
/-- what lies in memory while a class is gathered -/
structure OSp (W wo w : World) (M : Nat) (V : List Value) (A3 : Option Addr) (n3 c3 : Nat) (rs : List Row) (Z : List (List Int)) (A4 : Option Addr) (n4 c4 : Nat) (orb : List Nat) : Prop where
  oc : Own w 3 wo.heap.size w.heap.size A4 n4 c4 (intsV (natI orb))
  ol : OwnR w W.heap.size wo.heap.size A3 n3 c3 rs Z
  op : Own w 3 W.heap.size wo.heap.size (some ⟨W.heap.size, 0, none⟩) M M V
  sz : wo.heap.size ≤ w.heap.size
  bl : Below W.heap.size W w
  off : Off A3 n3 c3 W.heap.size
  ofr : OffO rs W.heap.size
  wos : W.heap.size ≤ wo.heap.size
theorem OSp.app {W wo w w' : World} {M n3 c3 n4 c4 n5 c5 : Nat} {V : List Value} {A3 A4 A5 : Option Addr} {rs : List Row} {Z : List (List Int)} {orb orb2 : List Nat} (h : OSp W wo w M V A3 n3 c3 rs Z A4 n4 c4 orb)
    (ho : Own w' 3 wo.heap.size w'.heap.size A5 n5 c5 (intsV (natI orb2))) (hx : Wx (Value.slice A4 n4 c4).ownBlock w w') : OSp W wo w' M V A3 n3 c3 rs Z A5 n5 c5 orb2 := by
  have hlo : ∀ q, (Value.slice A4 n4 c4).ownBlock = some q → wo.heap.size ≤ q := fun q hq => (h.oc.lt q hq).1
  refine ⟨ho, ?_, ?_, Nat.le_trans h.sz hx.size, h.bl.trans ((h.oc.below_ hx h.sz).mono h.wos), h.off, h.ofr, h.wos⟩
  · refine h.ol.wxO hx fun q hq => ⟨fun k hk e => ?_, fun i r hr e => ?_⟩
    · have a := (h.ol.o.lt k hk).2.1; have b := hlo q hq; omega
    · have a := (h.ol.rowlt i r q hr e).2.1; have b := hlo q hq; omega
  · exact hx.own h.op fun k hk e => by have a := (h.op.lt k hk).2.1; have b := hlo k e.symm; omega
theorem OSp.len {W wo w : World} {M n3 c3 n4 c4 : Nat} {V : List Value} {A3 A4 : Option Addr} {rs : List Row} {Z : List (List Int)} {orb : List Nat} (h : OSp W wo w M V A3 n3 c3 rs Z A4 n4 c4 orb) : orb.length = n4 := by
  have := h.oc.rd.ilen; rw [natI_len2] at this; exact this
set_option maxRecDepth 100000 in
theorem l1Least_any (a b : Nat) (w : World) : Calls Try.prog 72 #[.int .i64 (a : Int), .int .i64 (b : Int)] w fun e w' => e = .returned (.int .i64 ((min a b : Nat) : Int)) ∧ w' = w := by
  by_cases h : a < b
  · have i1 : (a : Int) < (b : Int) := by omega
    have E : Hid (((min a b : Nat) : Int) = (a : Int)) := by unfold Hid; omega
    go_enter Try.func72, Try.ntmps72
    go_wp2
    go_ret
    exact ⟨ret_i E.out, rfl⟩
  · have i1 : ¬ (a : Int) < (b : Int) := by omega
    have i2 : (b : Int) ≤ (a : Int) := by omega
    have E : Hid (((min a b : Nat) : Int) = (b : Int)) := by unfold Hid; omega
    go_enter Try.func72, Try.ntmps72
    go_wp2
    go_ret
    exact ⟨ret_i E.out, rfl⟩
end Go.Proofs.Ytgpjbmlemnjhfaa
