/- Plain facts on the place of a bell in a row, and on the cycle of place bells. -/
import Derived.Test.YtgpjbmlemnjhfaaPlain1
namespace Go.Proofs.Ytgpjbmlemnjhfaa

/-- the place of bell B in a row, from 1 on -/
def bpl (l : List UInt8) (B : Nat) : Nat := l.findIdx (fun c => dig c + 1 == B) + 1
theorem bpl_lt {l : List UInt8} (h : IsRow l) {B : Nat} (h1 : 1 ≤ B) (h2 : B ≤ l.length) : l.findIdx (fun c => dig c + 1 == B) < l.length := by
  obtain ⟨c, hc, hd⟩ := h.mem_all (j := B - 1) (by omega)
  exact List.findIdx_lt_length_of_exists ⟨c, hc, by simp; omega⟩
theorem bpl_le {l : List UInt8} (h : IsRow l) {B : Nat} (h1 : 1 ≤ B) (h2 : B ≤ l.length) : 1 ≤ bpl l B ∧ bpl l B ≤ l.length := by
  have := bpl_lt h h1 h2; unfold bpl; omega
theorem bpl_get {l : List UInt8} (h : IsRow l) {B : Nat} (h1 : 1 ≤ B) (h2 : B ≤ l.length) : dig (l[l.findIdx (fun c => dig c + 1 == B)]'(bpl_lt h h1 h2)) + 1 = B := by
  have := List.findIdx_getElem (xs := l) (p := fun c => dig c + 1 == B) (w := bpl_lt h h1 h2)
  simpa using this
theorem bpl_inj {l : List UInt8} (h : IsRow l) {B C : Nat} (h1 : 1 ≤ B) (h2 : B ≤ l.length) (h3 : 1 ≤ C) (h4 : C ≤ l.length) (e : bpl l B = bpl l C) : B = C := by
  have a := bpl_get h h1 h2
  have b := bpl_get h h3 h4
  have e2 : l.findIdx (fun c => dig c + 1 == B) = l.findIdx (fun c => dig c + 1 == C) := by unfold bpl at e; omega
  rw [← a, ← b]
  simp only [e2]
/-- the step of the search: a cell that is met -/
theorem bpl_hit {l : List UInt8} {B k : Nat} (hk : k < l.length) (hle : k ≤ l.findIdx (fun c => dig c + 1 == B)) (h : dig l[k] + 1 = B) : bpl l B = k + 1 := by
  unfold bpl
  have h1 : ¬ k < l.findIdx (fun c => dig c + 1 == B) := fun hlt => by
    have := List.not_of_lt_findIdx hlt
    simp at this; exact this h
  omega
theorem bpl_miss {l : List UInt8} {B k : Nat} (hk : k < l.length) (hle : k ≤ l.findIdx (fun c => dig c + 1 == B)) (h : dig l[k] + 1 ≠ B) : k + 1 ≤ l.findIdx (fun c => dig c + 1 == B) := by
  by_cases h1 : k < l.findIdx (fun c => dig c + 1 == B)
  · omega
  · exfalso
    have e : l.findIdx (fun c => dig c + 1 == B) = k := by omega
    have := List.findIdx_getElem (xs := l) (p := fun c => dig c + 1 == B) (w := by omega)
    simp only [e] at this
    exact h (by simpa using this)
/-- a bell found by its place -/
theorem bpl_of {l : List UInt8} (h : IsRow l) {k : Nat} (hk : k < l.length) : bpl l (dig l[k] + 1) = k + 1 := by
  have hd := h.dig_lt (List.getElem_mem hk)
  have h2 := bpl_get h (B := dig l[k] + 1) (by omega) (by omega)
  have h3 := bpl_lt h (B := dig l[k] + 1) (by omega) (by omega)
  have e : l[l.findIdx (fun c => dig c + 1 == dig l[k] + 1)] = l[k] := h.dig_inj (List.getElem_mem _) (List.getElem_mem _) (by omega)
  have := (List.getElem_inj h.2.2.2).1 e
  unfold bpl; omega

/-- a function again and again -/
def itN (f : Nat → Nat) (b : Nat) : Nat → Nat
  | 0 => b
  | k + 1 => f (itN f b k)
section
variable {f : Nat → Nat} {n b : Nat}
theorem itN_in (hf : ∀ x, 1 ≤ x → x ≤ n → 1 ≤ f x ∧ f x ≤ n) (h1 : 1 ≤ b) (h2 : b ≤ n) : ∀ k, 1 ≤ itN f b k ∧ itN f b k ≤ n
  | 0 => ⟨h1, h2⟩
  | k + 1 => by have ih := itN_in hf h1 h2 k; exact hf _ ih.1 ih.2
theorem itN_cancel (hf : ∀ x, 1 ≤ x → x ≤ n → 1 ≤ f x ∧ f x ≤ n) (hi : ∀ x y, 1 ≤ x → x ≤ n → 1 ≤ y → y ≤ n → f x = f y → x = y) (h1 : 1 ≤ b) (h2 : b ≤ n) : ∀ {i j : Nat}, itN f b i = itN f b (i + j) → itN f b j = b
  | 0, j, h => by rw [Nat.zero_add] at h; exact h.symm
  | i + 1, j, h => by
    have e : i + 1 + j = (i + j) + 1 := by omega
    rw [e] at h
    have a := itN_in hf h1 h2 i
    have c := itN_in hf h1 h2 (i + j)
    exact itN_cancel hf hi h1 h2 (hi _ _ a.1 a.2 c.1 c.2 h)
/-- K is the length of the cycle of b -/
def Cyc (f : Nat → Nat) (b K : Nat) : Prop := 0 < K ∧ itN f b K = b ∧ ∀ j, 0 < j → j < K → itN f b j ≠ b
theorem exists_cyc (hf : ∀ x, 1 ≤ x → x ≤ n → 1 ≤ f x ∧ f x ≤ n) (hi : ∀ x y, 1 ≤ x → x ≤ n → 1 ≤ y → y ≤ n → f x = f y → x = y) (h1 : 1 ≤ b) (h2 : b ≤ n) : ∃ K, Cyc f b K ∧ K ≤ n := by
  have hex : ∃ i j, i < j ∧ j ≤ n ∧ itN f b i = itN f b j := by
    apply Classical.byContradiction
    intro hno
    have hnd : ((List.range (n + 1)).map (itN f b)).Nodup := by
      refine nodup_map_of_inj List.nodup_range fun x hx y hy he => ?_
      simp only [List.mem_range] at hx hy
      rcases Nat.lt_trichotomy x y with h | h | h
      · exact absurd ⟨x, y, h, by omega, he⟩ hno
      · exact h
      · exact absurd ⟨y, x, h, by omega, he.symm⟩ hno
    have hle := nodup_len_le (m := (List.range n).map (· + 1)) hnd fun x hx => by
      obtain ⟨k, _, rfl⟩ := List.mem_map.1 hx
      have := itN_in hf h1 h2 k
      exact List.mem_map.2 ⟨itN f b k - 1, by simp; omega, by omega⟩
    simp at hle; omega
  obtain ⟨i, j, hij, hj, he⟩ := hex
  have hp : itN f b (j - i) = b := itN_cancel hf hi h1 h2 (i := i) (by rw [he]; congr 1; omega)
  obtain ⟨k, k1, k2, k3⟩ := exists_least (P := fun k => 0 < k ∧ itN f b k = b) (j - i) ⟨by omega, hp⟩
  exact ⟨k, ⟨k2.1, k2.2, fun j hj0 hjk he => k3 j hjk ⟨hj0, he⟩⟩, by omega⟩
/-- the cells of a cycle before its end are others -/
theorem Cyc.notin (hf : ∀ x, 1 ≤ x → x ≤ n → 1 ≤ f x ∧ f x ≤ n) (hi : ∀ x y, 1 ≤ x → x ≤ n → 1 ≤ y → y ≤ n → f x = f y → x = y) (h1 : 1 ≤ b) (h2 : b ≤ n) {K k : Nat} (hK : Cyc f b K) (hk : k < K) : itN f b k ∉ (List.range k).map (itN f b) := by
  intro hm
  obtain ⟨i, hi2, e⟩ := List.mem_map.1 hm
  simp only [List.mem_range] at hi2
  have := itN_cancel hf hi h1 h2 (i := i) (j := k - i) (by rw [e]; congr 1; omega)
  exact hK.2.2 (k - i) (by omega) (by omega) this
end
open Classical in
/-- the cycle of place bells of a bell, its length -/
noncomputable def pbK (h : List UInt8) (B : Nat) : Nat := if hx : ∃ K, Cyc (bpl h) B K ∧ K ≤ h.length then Classical.choose hx else 0
theorem pbK_ok {h : List UInt8} (hr : IsRow h) {B : Nat} (h1 : 1 ≤ B) (h2 : B ≤ h.length) : Cyc (bpl h) B (pbK h B) ∧ pbK h B ≤ h.length := by
  have hx := exists_cyc (n := h.length) (fun _ a b => bpl_le hr a b) (fun _ _ a b c d e => bpl_inj hr a b c d e) h1 h2
  unfold pbK
  rw [dif_pos hx]
  exact Classical.choose_spec hx
theorem pbs_in {h : List UInt8} (hr : IsRow h) {B : Nat} (h1 : 1 ≤ B) (h2 : B ≤ h.length) (k : Nat) : 1 ≤ itN (bpl h) B k ∧ itN (bpl h) B k ≤ h.length :=
  itN_in (fun _ a b => bpl_le hr a b) h1 h2 k
theorem pbs_notin {h : List UInt8} (hr : IsRow h) {B : Nat} (h1 : 1 ≤ B) (h2 : B ≤ h.length) {k : Nat} (hk : k < pbK h B) : itN (bpl h) B k ∉ (List.range k).map (itN (bpl h) B) :=
  Cyc.notin (n := h.length) (fun _ a b => bpl_le hr a b) (fun _ _ a b c d e => bpl_inj hr a b c d e) h1 h2 (pbK_ok hr h1 h2).1 hk
/-- naturals as ints -/
def natI (l : List Nat) : List Int := l.map (fun k : Nat => (k : Int))
theorem natI_app (a b : List Nat) : natI (a ++ b) = natI a ++ natI b := by simp [natI]
theorem natI_len (a : List Nat) : (natI a).length = a.length := by simp [natI]
theorem mem_natI {a : List Nat} {k : Nat} : (k : Int) ∈ natI a ↔ k ∈ a := by
  constructor
  · intro h
    obtain ⟨x, hx, e⟩ := List.mem_map.1 h
    have e2 : (x : Int) = (k : Int) := e
    have : x = k := by omega
    exact this ▸ hx
  · intro h
    exact List.mem_map.2 ⟨k, h, rfl⟩
noncomputable def pbL (h : List UInt8) (B k : Nat) : List Nat := (List.range k).map (itN (bpl h) B)
theorem pbL_succ (h : List UInt8) (B k : Nat) : pbL h B (k + 1) = pbL h B k ++ [itN (bpl h) B k] := by simp [pbL, List.range_succ]
theorem pbL_len (h : List UInt8) (B k : Nat) : (pbL h B k).length = k := by simp [pbL]
end Go.Proofs.Ytgpjbmlemnjhfaa
