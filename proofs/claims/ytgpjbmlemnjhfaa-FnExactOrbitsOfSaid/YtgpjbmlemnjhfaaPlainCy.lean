/- The cycles of a row, in plain lists: what both sides gather, place by place. -/
import Derived.Test.YtgpjbmlemnjhfaaPlainP
import Derived.Test.YtgpjbmlemnjhfaaWalkA
namespace Go.Proofs.Ytgpjbmlemnjhfaa
set_option linter.unusedVariables false

/-- where place x goes -/
def goL (l : List UInt8) (x : Nat) : Nat := dig (l.getD (x - 1) 0) + 1
section
variable {l : List UInt8}
theorem goL_in (h : IsRow l) {x : Nat} (h1 : 1 ≤ x) (h2 : x ≤ l.length) : 1 ≤ goL l x ∧ goL l x ≤ l.length := by
  have := h.dig_lt (getD_mem (l := l) (i := x - 1) (by omega))
  unfold goL; omega
theorem goL_inj (h : IsRow l) {x y : Nat} (h1 : 1 ≤ x) (h2 : x ≤ l.length) (h3 : 1 ≤ y) (h4 : y ≤ l.length) (e : goL l x = goL l y) : x = y := by
  have a := h.dig_inj (getD_mem (l := l) (i := x - 1) (by omega)) (getD_mem (l := l) (i := y - 1) (by omega)) (by unfold goL at e; omega)
  have := getD_inj h.2.2.2 (i := x - 1) (j := y - 1) (by omega) (by omega) a
  omega
open Classical in
/-- the length of the cycle of x -/
noncomputable def cyK (l : List UInt8) (x : Nat) : Nat := if hx : ∃ K, Cyc (goL l) x K ∧ K ≤ l.length then Classical.choose hx else 0
theorem cyK_ok (h : IsRow l) {x : Nat} (h1 : 1 ≤ x) (h2 : x ≤ l.length) : Cyc (goL l) x (cyK l x) ∧ cyK l x ≤ l.length := by
  have hx := exists_cyc (n := l.length) (fun _ a b => goL_in h a b) (fun _ _ a b c d e => goL_inj h a b c d e) h1 h2
  unfold cyK
  rw [dif_pos hx]
  exact Classical.choose_spec hx
noncomputable def cyL (l : List UInt8) (x k : Nat) : List Nat := (List.range k).map (itN (goL l) x)
theorem cyL_succ (l : List UInt8) (x k : Nat) : cyL l x (k + 1) = cyL l x k ++ [itN (goL l) x k] := by simp [cyL, List.range_succ]
theorem cyL_len (l : List UInt8) (x k : Nat) : (cyL l x k).length = k := by simp [cyL]
theorem it_in (h : IsRow l) {x : Nat} (h1 : 1 ≤ x) (h2 : x ≤ l.length) (k : Nat) : 1 ≤ itN (goL l) x k ∧ itN (goL l) x k ≤ l.length :=
  itN_in (fun _ a b => goL_in h a b) h1 h2 k
theorem cy_notin (h : IsRow l) {x : Nat} (h1 : 1 ≤ x) (h2 : x ≤ l.length) {k : Nat} (hk : k < cyK l x) : itN (goL l) x k ∉ cyL l x k :=
  Cyc.notin (n := l.length) (fun _ a b => goL_in h a b) (fun _ _ a b c d e => goL_inj h a b c d e) h1 h2 (cyK_ok h h1 h2).1 hk
theorem cy_end (h : IsRow l) {x : Nat} (h1 : 1 ≤ x) (h2 : x ≤ l.length) : itN (goL l) x (cyK l x) ∈ cyL l x (cyK l x) := by
  have hK := (cyK_ok h h1 h2).1
  rw [hK.2.1]
  exact List.mem_map.2 ⟨0, List.mem_range.2 hK.1, rfl⟩
/-- what has been met, from place 1 to i -/
noncomputable def cyS (l : List UInt8) : Nat → List Nat
  | 0 => []
  | i + 1 => if (i + 1) ∈ cyS l i then cyS l i else if cyK l (i + 1) ≤ 1 then cyS l i else cyS l i ++ cyL l (i + 1) (cyK l (i + 1))
/-- how far the walk goes from place i + 1 -/
noncomputable def cyN (l : List UInt8) (i : Nat) : Nat := if (i + 1) ∈ cyS l i then 0 else cyK l (i + 1)
noncomputable def cyO (l : List UInt8) : Nat → List (List Nat)
  | 0 => []
  | i + 1 => if 1 < cyN l i then cyO l i ++ [cyL l (i + 1) (cyN l i)] else cyO l i
theorem cyS_succ (l : List UInt8) (i : Nat) : cyS l (i + 1) = if 1 < cyN l i then cyS l i ++ cyL l (i + 1) (cyN l i) else cyS l i := by
  by_cases h : (i + 1) ∈ cyS l i
  · have eN : cyN l i = 0 := by unfold cyN; rw [if_pos h]
    have h3 : ¬ 1 < cyN l i := by omega
    simp only [cyS]
    rw [if_pos h, if_neg h3]
  · have eN : cyN l i = cyK l (i + 1) := by unfold cyN; rw [if_neg h]
    simp only [cyS]
    rw [if_neg h]
    by_cases h2 : cyK l (i + 1) ≤ 1
    · have h3 : ¬ 1 < cyN l i := by omega
      rw [if_pos h2, if_neg h3]
    · have h3 : 1 < cyN l i := by omega
      rw [if_neg h2, if_pos h3, eN]
theorem cyN_le (h : IsRow l) {i : Nat} (hi : i < l.length) : cyN l i ≤ l.length := by
  unfold cyN
  split
  · omega
  · exact (cyK_ok h (by omega) (by omega)).2
theorem cyO_len (l : List UInt8) : ∀ i, (cyO l i).length ≤ i
  | 0 => by simp [cyO]
  | i + 1 => by
    have := cyO_len l i
    simp only [cyO]
    split
    · simp; omega
    · omega
theorem cyS_len (h : IsRow l) : ∀ i, i ≤ l.length → (cyS l i).length ≤ i * 8
  | 0, _ => by simp [cyS]
  | i + 1, hi => by
    have := cyS_len h i (by omega)
    have h2 := cyN_le h (i := i) (by omega)
    have h8 := h.2.1
    rw [cyS_succ]
    split
    · rw [List.length_append, cyL_len]; omega
    · omega
/-- what has been met is closed backwards -/
theorem cyS_back (h : IsRow l) : ∀ i, i ≤ l.length → ∀ y, 1 ≤ y → y ≤ l.length → goL l y ∈ cyS l i → y ∈ cyS l i
  | 0, _, y, _, _, hy => by simp [cyS] at hy
  | i + 1, hi, y, h1, h2, hy => by
    rw [cyS_succ] at hy ⊢
    by_cases hN : 1 < cyN l i
    · rw [if_pos hN] at hy ⊢
      rcases List.mem_append.1 hy with hy | hy
      · exact List.mem_append_left _ (cyS_back h i (by omega) y h1 h2 hy)
      · have hns : (i + 1) ∉ cyS l i := fun hm => by unfold cyN at hN; rw [if_pos hm] at hN; omega
        have eN : cyN l i = cyK l (i + 1) := by unfold cyN; rw [if_neg hns]
        rw [eN] at hy ⊢
        refine List.mem_append_right _ ?_
        have hK := (cyK_ok h (x := i + 1) (by omega) hi).1
        obtain ⟨j, hj, e⟩ := List.mem_map.1 hy
        simp only [List.mem_range] at hj
        have key : ∀ q, q < cyK l (i + 1) → goL l y = goL l (itN (goL l) (i + 1) q) → y ∈ cyL l (i + 1) (cyK l (i + 1)) := fun q hq e2 => by
          have hq2 := it_in h (x := i + 1) (by omega) hi q
          have := goL_inj h h1 h2 hq2.1 hq2.2 e2
          exact List.mem_map.2 ⟨q, List.mem_range.2 hq, this.symm⟩
        cases j with
        | zero =>
          refine key (cyK l (i + 1) - 1) (by omega) ?_
          rw [← e]
          show itN (goL l) (i + 1) 0 = itN (goL l) (i + 1) (cyK l (i + 1) - 1 + 1)
          rw [show cyK l (i + 1) - 1 + 1 = cyK l (i + 1) by omega, hK.2.1]; rfl
        | succ j => exact key j (by omega) e.symm
    · rw [if_neg hN] at hy ⊢
      exact cyS_back h i (by omega) y h1 h2 hy
theorem cyS_start (h : IsRow l) {i : Nat} (hi : i < l.length) : ∀ j, itN (goL l) (i + 1) j ∈ cyS l i → (i + 1) ∈ cyS l i
  | 0, hm => hm
  | j + 1, hm => by
    have hq := it_in h (x := i + 1) (by omega) (by omega) j
    exact cyS_start h hi j (cyS_back h i (by omega) _ hq.1 hq.2 hm)
/-- the program's marks when place i + 1 is looked at, j steps on -/
noncomputable def cyB (l : List UInt8) (i : Nat) : List Bool := (List.range l.length).map fun x => decide ((x + 1) ∈ cyS l i) || (decide (x < i) && decide (goL l (x + 1) = x + 1))
noncomputable def cyBj (l : List UInt8) (i j : Nat) : List Bool := (List.range l.length).map fun x => (decide ((x + 1) ∈ cyS l i) || (decide (x < i) && decide (goL l (x + 1) = x + 1))) || decide ((x + 1) ∈ cyL l (i + 1) j)
theorem cyBj_len (l : List UInt8) (i j : Nat) : (cyBj l i j).length = l.length := by simp [cyBj]
theorem cyB_zero (l : List UInt8) : cyB l 0 = List.replicate l.length false := by
  apply List.ext_getElem
  · simp [cyB]
  · intro x h1 h2; simp [cyB, cyS]
theorem cyBj_zero (l : List UInt8) (i : Nat) : cyBj l i 0 = cyB l i := by
  unfold cyBj cyB
  refine List.map_congr_left fun x _ => ?_
  simp [cyL]
theorem cyBj_set (h : IsRow l) {i : Nat} (hi : i < l.length) (j : Nat) : (cyBj l i j).set (itN (goL l) (i + 1) j - 1) true = cyBj l i (j + 1) := by
  have hq := it_in h (x := i + 1) (by omega) (by omega) j
  apply List.ext_getElem
  · simp [cyBj]
  · intro x h1 h2
    rw [List.getElem_set]
    simp only [cyBj, List.getElem_map, List.getElem_range, cyL_succ, List.mem_append, List.mem_singleton]
    by_cases e : itN (goL l) (i + 1) j - 1 = x
    · rw [if_pos e]
      have : x + 1 = itN (goL l) (i + 1) j := by omega
      simp [this]
    · rw [if_neg e]
      have : ¬ x + 1 = itN (goL l) (i + 1) j := by omega
      simp [this]
/-- the step's test -/
theorem cyBj_hit (h : IsRow l) {i : Nat} (hi : i < l.length) {j : Nat} (hj : j ≤ cyN l i) : (cyBj l i j)[itN (goL l) (i + 1) j - 1]? = some (!decide (j < cyN l i)) := by
  have hq := it_in h (x := i + 1) (by omega) (by omega) j
  have e1 : itN (goL l) (i + 1) j - 1 + 1 = itN (goL l) (i + 1) j := by omega
  unfold cyBj
  rw [List.getElem?_map, List.getElem?_range (by omega), Option.map_some, e1]
  congr 1
  by_cases hs : (i + 1) ∈ cyS l i
  · have eN : cyN l i = 0 := by unfold cyN; rw [if_pos hs]
    have ej : j = 0 := by omega
    subst ej
    rw [eN]
    simp [itN, hs]
  · have eN : cyN l i = cyK l (i + 1) := by unfold cyN; rw [if_neg hs]
    have hK := (cyK_ok h (x := i + 1) (by omega) (by omega)).1
    rw [eN] at hj ⊢
    by_cases hlt : j < cyK l (i + 1)
    · have a1 : itN (goL l) (i + 1) j ∉ cyS l i := fun hm => hs (cyS_start h hi j hm)
      have a2 := cy_notin h (x := i + 1) (by omega) (by omega) hlt
      have a3 : ¬ (itN (goL l) (i + 1) j - 1 < i ∧ goL l (itN (goL l) (i + 1) j) = itN (goL l) (i + 1) j) := by
        rintro ⟨b1, b2⟩
        have b3 := itN_cancel (n := l.length) (fun _ a b => goL_in h a b) (fun _ _ a b c d e => goL_inj h a b c d e) (show 1 ≤ i + 1 by omega) (show i + 1 ≤ l.length by omega) (i := j) (j := 1) b2.symm
        have b4 : cyK l (i + 1) ≤ 1 := Nat.le_of_not_lt fun hc => hK.2.2 1 (by omega) hc b3
        have b5 : j = 0 := by omega
        subst b5
        simp [itN] at b1
      rw [Bool.eq_iff_iff]
      simp only [Bool.or_eq_true, Bool.and_eq_true, decide_eq_true_eq, Bool.not_eq_true', decide_eq_false_iff_not]
      constructor
      · rintro ((c | c) | c)
        · exact absurd c a1
        · exact absurd c a3
        · exact absurd c a2
      · intro c; exact absurd hlt c
    · have ej : j = cyK l (i + 1) := by omega
      have := cy_end h (x := i + 1) (by omega) (by omega)
      rw [← ej] at this
      rw [decide_eq_true this, decide_eq_false hlt]; simp
theorem cyBj_done (h : IsRow l) {i : Nat} (hi : i < l.length) : cyBj l i (cyN l i) = cyB l (i + 1) := by
  unfold cyBj cyB
  refine List.map_congr_left fun x hx => ?_
  simp only [List.mem_range] at hx
  rw [cyS_succ]
  by_cases hs : (i + 1) ∈ cyS l i
  · have eN : cyN l i = 0 := by unfold cyN; rw [if_pos hs]
    rw [eN, if_neg (by omega)]
    by_cases hxi : x = i
    · subst hxi; simp [hs]
    · have : decide (x < i) = decide (x < i + 1) := decide_eq_decide.2 (by omega)
      rw [this]; simp [cyL]
  · have eN : cyN l i = cyK l (i + 1) := by unfold cyN; rw [if_neg hs]
    have hK := (cyK_ok h (x := i + 1) (by omega) (by omega)).1
    rw [eN]
    by_cases h1 : 1 < cyK l (i + 1)
    · rw [if_pos h1]
      have hnf : goL l (i + 1) ≠ i + 1 := fun e => hK.2.2 1 (by omega) h1 e
      rw [Bool.eq_iff_iff]
      simp only [Bool.or_eq_true, Bool.and_eq_true, decide_eq_true_eq, List.mem_append]
      constructor
      · rintro ((c | c) | c)
        · exact .inl (.inl c)
        · exact .inr ⟨by omega, c.2⟩
        · exact .inl (.inr c)
      · rintro ((c | c) | c)
        · exact .inl (.inl c)
        · exact .inr c
        · by_cases e : x = i
          · subst e; exact absurd c.2 hnf
          · exact .inl (.inr ⟨by omega, c.2⟩)
    · rw [if_neg h1]
      have e1 : cyK l (i + 1) = 1 := by have := hK.1; omega
      have hf : goL l (i + 1) = i + 1 := by have := hK.2.1; rw [e1] at this; exact this
      rw [e1]
      rw [Bool.eq_iff_iff]
      simp only [Bool.or_eq_true, Bool.and_eq_true, decide_eq_true_eq]
      have em : x + 1 ∈ cyL l (i + 1) 1 ↔ x = i := by simp [cyL, List.range_succ, itN]
      rw [em]
      constructor
      · rintro ((c | c) | c)
        · exact .inl c
        · exact .inr ⟨by omega, c.2⟩
        · subst c; exact .inr ⟨by omega, hf⟩
      · rintro (c | c)
        · exact .inl (.inl c)
        · by_cases e : x = i
          · exact .inr e
          · exact .inl (.inr ⟨by omega, c.2⟩)
/-- the reference's tests -/
theorem cyN_skip (h : IsRow l) {i : Nat} (hi : i < l.length) : ((i + 1) ∈ cyS l i ∨ goL l (i + 1) = i + 1) ↔ ¬ 1 < cyN l i := by
  unfold cyN
  by_cases hs : (i + 1) ∈ cyS l i
  · rw [if_pos hs]; simp [hs]
  · rw [if_neg hs]
    have hK := (cyK_ok h (x := i + 1) (by omega) (by omega)).1
    constructor
    · rintro (c | c)
      · exact absurd c hs
      · intro h1; exact hK.2.2 1 (by omega) h1 c
    · intro h1
      have e1 : cyK l (i + 1) = 1 := by have := hK.1; omega
      have := hK.2.1
      rw [e1] at this
      exact .inr this
theorem cyN_full {i : Nat} (h1 : 1 < cyN l i) : cyN l i = cyK l (i + 1) := by
  unfold cyN at h1 ⊢
  split at h1
  · omega
  · rename_i h; rw [if_neg h]
theorem cyL_hit (h : IsRow l) {i : Nat} (hi : i < l.length) (h1 : 1 < cyN l i) {j : Nat} (hj : j ≤ cyN l i) : itN (goL l) (i + 1) j ∈ cyL l (i + 1) j ↔ j = cyN l i := by
  rw [cyN_full h1] at hj ⊢
  constructor
  · intro hm
    refine Nat.le_antisymm hj (Nat.le_of_not_lt fun hlt => ?_)
    exact cy_notin h (x := i + 1) (by omega) (by omega) hlt hm
  · intro e
    rw [e]; exact cy_end h (by omega) (by omega)
end
end Go.Proofs.Ytgpjbmlemnjhfaa
