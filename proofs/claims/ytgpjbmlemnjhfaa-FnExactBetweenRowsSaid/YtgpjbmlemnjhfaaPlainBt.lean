/- Plain facts: the one change that leads from a row to another. -/
import Derived.Test.YtgpjbmlemnjhfaaPlainFr
import Derived.Test.YtgpjbmlemnjhfaaWalkV
namespace Go.Proofs.Ytgpjbmlemnjhfaa
open Go.RowKit
set_option linter.unusedVariables false

/-- a change as text, of its places -/
def cT (l : List Nat) : List UInt8 := txtL (l.map fun p => UInt8.ofNat (48 + p))
/-- the row that a change makes of rounds -/
def crT (n : Nat) (c : List UInt8) : List UInt8 := crL n (swF (fun p => decide (p ∈ if c = [45] then [] else digsI c)) ((n : Int) - 1).toNat 1)
/-- the places that stay between two rows, and all others exchanged in pairs; p: the place of the first -/
def btL : Nat → List UInt8 → List UInt8 → Option (List Nat)
  | _, [], [] => some []
  | p, [x], [y] => if x = y then some [p] else none
  | p, x :: x2 :: xs, y :: y2 :: ys => if x = y then (btL (p + 1) (x2 :: xs) (y2 :: ys)).map (p :: ·) else if x = y2 ∧ x2 = y then btL (p + 2) xs ys else none
  | _, _, _ => none
/-- all places but those of l exchanged in pairs -/
def apL : Nat → List Nat → List UInt8 → List UInt8
  | p, l, x :: x2 :: xs => if l.head? = some p then x :: apL (p + 1) l.tail (x2 :: xs) else x2 :: x :: apL (p + 2) l xs
  | _, _, xs => xs
theorem fr_cases {n f p : Nat} {l : List Nat} (h : p ≤ n) (hf : n + 1 ≤ p + f) : l ∈ frL n f p ↔ (∃ r, r ∈ frL n (f - 1) (p + 1) ∧ l = p :: r) ∨ (p < n ∧ l ∈ frL n (f - 1) (p + 2)) := by
  obtain ⟨f, rfl⟩ : ∃ k, f = k + 1 := ⟨f - 1, by omega⟩
  rw [frL, if_neg (by omega), List.mem_append, List.mem_map, Nat.add_sub_cancel]
  constructor
  · rintro (⟨r, hr, e⟩ | h)
    · exact .inl ⟨r, hr, e.symm⟩
    · split at h
      · rename_i hp; exact .inr ⟨hp, h⟩
      · cases h
  · rintro (⟨r, hr, e⟩ | ⟨hp, h⟩)
    · exact .inl ⟨r, hr, e.symm⟩
    · refine .inr ?_; rw [if_pos hp]; exact h
theorem fr_end {n f p : Nat} {l : List Nat} (h : n < p) : l ∈ frL n f p ↔ l = [] := by
  cases f with
  | zero => simp [frL]
  | succ f => rw [frL, if_pos h]; simp
theorem fr_ge {n : Nat} : ∀ (f p : Nat) (l : List Nat), l ∈ frL n f p → ∀ x ∈ l, p ≤ x
  | 0, p, l, h, x, hx => by simp [frL] at h; subst h; cases hx
  | f + 1, p, l, h, x, hx => by
    rw [frL] at h
    split at h
    · simp at h; subst h; cases hx
    · rcases List.mem_append.1 h with h | h
      · obtain ⟨r, hr, rfl⟩ := List.mem_map.1 h
        rcases List.mem_cons.1 hx with rfl | hx
        · exact Nat.le_refl _
        · have := fr_ge f (p + 1) r hr x hx; omega
      · split at h
        · have := fr_ge f (p + 2) l h x hx; omega
        · cases h
theorem fr_head {n f p q : Nat} {l : List Nat} (h : l ∈ frL n f q) (hp : p < q) : l.head? ≠ some p := fun e => by
  cases l with
  | nil => cases e
  | cons x t => injection e with e; have := fr_ge f q _ h x List.mem_cons_self; omega
theorem bt_fwd {n : Nat} : ∀ (f p : Nat) (xs ys : List UInt8) (l : List Nat), n + 1 ≤ p + f → p + xs.length = n + 1 → btL p xs ys = some l → l ∈ frL n f p ∧ apL p l xs = ys
  | f, p, [], [], l, hf, hl, h => by
    simp at hl
    simp [btL] at h; subst h
    exact ⟨(fr_end (by omega)).2 rfl, rfl⟩
  | f, p, [x], [y], l, hf, hl, h => by
    simp at hl
    rw [btL] at h
    split at h
    · rename_i e
      injection h with h; subst h; subst e
      exact ⟨(fr_cases (by omega) hf).2 (.inl ⟨[], (fr_end (by omega)).2 rfl, rfl⟩), rfl⟩
    · cases h
  | f, p, x :: x2 :: xs, y :: y2 :: ys, l, hf, hl, h => by
    simp at hl
    obtain ⟨f, rfl⟩ : ∃ k, f = k + 1 := ⟨f - 1, by omega⟩
    rw [btL] at h
    split at h
    · rename_i e
      obtain ⟨r, hr, rfl⟩ := Option.map_eq_some_iff.1 h
      have := bt_fwd (n := n) f (p + 1) (x2 :: xs) (y2 :: ys) r (by omega) (by simp; omega) hr
      refine ⟨(fr_cases (by omega) hf).2 (.inl ⟨r, this.1, rfl⟩), ?_⟩
      show apL p (p :: r) (x :: x2 :: xs) = _
      rw [apL, if_pos (show (p :: r).head? = some p from rfl), List.tail_cons, this.2, e]
    · split at h
      · rename_i e
        have := bt_fwd (n := n) f (p + 2) xs ys l (by omega) (by omega) h
        refine ⟨(fr_cases (by omega) hf).2 (.inr ⟨by omega, this.1⟩), ?_⟩
        rw [apL, if_neg (fr_head this.1 (by omega)), this.2, e.1, e.2]
      · cases h
  | _, _, [], _ :: _, _, _, _, h => by simp [btL] at h
  | _, _, [_], [], _, _, _, h => by simp [btL] at h
  | _, _, [_], _ :: _ :: _, _, _, _, h => by simp [btL] at h
  | _, _, _ :: _ :: _, [], _, _, _, h => by simp [btL] at h
  | _, _, _ :: _ :: _, [_], _, _, _, h => by simp [btL] at h
theorem bt_bwd {n : Nat} : ∀ (f p : Nat) (xs : List UInt8) (l : List Nat), n + 1 ≤ p + f → p + xs.length = n + 1 → xs.Nodup → l ∈ frL n f p → btL p xs (apL p l xs) = some l
  | f, p, [], l, hf, hl, hd, h => by
    simp at hl
    have := (fr_end (by omega)).1 h
    subst this; rfl
  | f, p, [x], l, hf, hl, hd, h => by
    simp at hl
    rcases (fr_cases (by omega) hf).1 h with ⟨r, hr, rfl⟩ | ⟨hp, _⟩
    · have := (fr_end (by omega)).1 hr
      subst this; simp [apL, btL]
    · omega
  | f, p, x :: x2 :: xs, l, hf, hl, hd, h => by
    simp at hl
    obtain ⟨f, rfl⟩ : ∃ k, f = k + 1 := ⟨f - 1, by omega⟩
    rcases (fr_cases (by omega) hf).1 h with ⟨r, hr, rfl⟩ | ⟨hp, hr⟩
    · rw [Nat.add_sub_cancel] at hr
      have := bt_bwd f (p + 1) (x2 :: xs) r (by omega) (by simp; omega) (List.nodup_cons.1 hd).2 hr
      rw [apL, if_pos (show (p :: r).head? = some p from rfl), List.tail_cons]
      cases he : apL (p + 1) r (x2 :: xs) with
      | nil => rw [he] at this; cases xs <;> simp [btL] at this
      | cons y ys =>
        rw [he] at this
        rw [btL, if_pos rfl, this]; rfl
    · rw [Nat.add_sub_cancel] at hr
      have hd1 := List.nodup_cons.1 hd
      have hd2 := List.nodup_cons.1 hd1.2
      have := bt_bwd f (p + 2) xs l (by omega) (by omega) hd2.2 hr
      rw [apL, if_neg (fr_head hr (by omega)), btL, if_neg (fun e => hd1.1 (by rw [e]; exact List.mem_cons_self)), if_pos ⟨rfl, rfl⟩, this]
theorem ap_map (f : UInt8 → UInt8) : ∀ (p : Nat) (l : List Nat) (xs : List UInt8), (apL p l xs).map f = apL p l (xs.map f)
  | p, l, [] => rfl
  | p, l, [x] => rfl
  | p, l, x :: x2 :: xs => by
    simp only [List.map_cons]
    rw [apL, apL]
    split
    · rw [List.map_cons, ap_map f (p + 1) l.tail (x2 :: xs), List.map_cons]
    · rw [List.map_cons, List.map_cons, ap_map f (p + 2) l xs]
theorem cr_all (n : Nat) (h1 : 3 ≤ n) (h2 : n ≤ 8) : ∀ l ∈ frL n n 1, (IsCh n (cT l) ↔ l.length + 2 ≤ n) ∧ crT n (cT l) = apL 1 l (roundsL n) := by
  have h : n = 3 ∨ n = 4 ∨ n = 5 ∨ n = 6 ∨ n = 7 ∨ n = 8 := by omega
  rcases h with rfl | rfl | rfl | rfl | rfl | rfl <;> decide +kernel
/-- the change that leads from one row to another, if there is one -/
def btO (n : Nat) (a b : List UInt8) : Option (List UInt8) := match btL 1 a b with
  | some l => if l.length + 2 ≤ n then some (cT l) else none
  | none => none
theorem ap_times {n : Nat} {a : List UInt8} (ha : a.length = n) (h1 : 3 ≤ n) (h2 : n ≤ 8) {l : List Nat} (hl : l ∈ frL n n 1) : timesL a (crT n (cT l)) = apL 1 l a := by
  rw [(cr_all n h1 h2 l hl).2]
  unfold timesL
  rw [ap_map]
  have := times_rounds (a := a) (by omega)
  unfold timesL at this
  rw [ha] at this
  rw [this]
theorem btO_of {n : Nat} {a b c : List UInt8} (ha : a.length = n) (hd : a.Nodup) (h1 : 3 ≤ n) (h2 : n ≤ 8) (hc : c ∈ (frL n n 1).map cT) (hi : IsCh n c) (h : timesL a (crT n c) = b) : btO n a b = some c := by
  obtain ⟨l, hl, rfl⟩ := List.mem_map.1 hc
  rw [ap_times ha h1 h2 hl] at h
  have := bt_bwd (n := n) n 1 a l (by omega) (by omega) hd hl
  rw [h] at this
  unfold btO
  rw [this]
  exact if_pos ((cr_all n h1 h2 l hl).1.1 hi)
theorem of_btO {n : Nat} {a b c : List UInt8} (ha : a.length = n) (h1 : 3 ≤ n) (h2 : n ≤ 8) (h : btO n a b = some c) : c ∈ (frL n n 1).map cT ∧ IsCh n c ∧ timesL a (crT n c) = b := by
  unfold btO at h
  split at h
  · rename_i l hl
    split at h
    · rename_i hlen
      injection h with h; subst h
      have := bt_fwd (n := n) n 1 a b l (by omega) (by omega) hl
      exact ⟨List.mem_map.2 ⟨l, this.1, rfl⟩, (cr_all n h1 h2 l this.1).1.2 hlen, by rw [ap_times ha h1 h2 this.1]; exact this.2⟩
    · cases h
  · cases h
end Go.Proofs.Ytgpjbmlemnjhfaa
