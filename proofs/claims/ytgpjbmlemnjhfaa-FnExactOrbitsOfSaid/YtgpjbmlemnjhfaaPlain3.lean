/- Plain facts: changes of a stage, as bytes. -/
import Derived.Test.YtgpjbmlemnjhfaaPlain1
namespace Go.Proofs.Ytgpjbmlemnjhfaa

/-- a proposition as a bool -/
noncomputable def cb (P : Prop) : Bool := @decide P (Classical.propDecidable P)
theorem cb_true {P : Prop} (h : P) : cb P = true := by unfold cb; exact @decide_eq_true _ (Classical.propDecidable P) h
theorem cb_false {P : Prop} (h : ¬ P) : cb P = false := by unfold cb; exact @decide_eq_false _ (Classical.propDecidable P) h
theorem of_cb {P : Prop} (h : cb P = true) : P := by unfold cb at h; exact @of_decide_eq_true _ (Classical.propDecidable P) h
theorem not_cb {P : Prop} (h : cb P = false) : ¬ P := fun hp => by rw [cb_true hp] at h; cases h
theorem cb_congr {P Q : Prop} (h : P ↔ Q) : cb P = cb Q := by
  by_cases hp : P
  · rw [cb_true hp, cb_true (h.1 hp)]
  · rw [cb_false hp, cb_false fun hq => hp (h.2 hq)]

/-- cell i of a text, as a number -/
def ch (l : List UInt8) (i : Nat) : Nat := (l.getD i 0).toNat
theorem ch_lt (l : List UInt8) (i : Nat) : ch l i < 256 := UInt8.toNat_lt _
def PlacesOK (n : Nat) (l : List UInt8) : Prop :=
  1 ≤ l.length ∧ l.length + 2 ≤ n ∧ (∀ i, i < l.length → 49 ≤ ch l i ∧ ch l i ≤ 48 + n) ∧ ch l 0 % 2 = 1 ∧
    (∀ i, i + 1 < l.length → ch l i < ch l (i + 1) ∧ (ch l i + ch l (i + 1)) % 2 = 1) ∧ ch l (l.length - 1) % 2 = n % 2
def IsCh (n : Nat) (l : List UInt8) : Prop := 3 ≤ n ∧ n ≤ 8 ∧ ((l = [45] ∧ n % 2 = 0) ∨ PlacesOK n l)
/-- the first k places of a text are fit; the last of them -/
def Pre (n : Nat) (l : List UInt8) (k : Nat) (last : Int) : Prop :=
  (∀ i, i < k → 49 ≤ ch l i ∧ ch l i ≤ 48 + n) ∧ (0 < k → ch l 0 % 2 = 1) ∧ (∀ i, i + 1 < k → ch l i < ch l (i + 1) ∧ (ch l i + ch l (i + 1)) % 2 = 1) ∧
    (k = 0 → last = 0) ∧ (0 < k → last = (ch l (k - 1) : Int) - 48)
theorem Pre.zero (n : Nat) (l : List UInt8) : Pre n l 0 0 := ⟨fun i h => by omega, fun h => by omega, fun i h => by omega, fun _ => rfl, fun h => by omega⟩
theorem Pre.bounds {n : Nat} {l : List UInt8} {k : Nat} {last : Int} (h : Pre n l k last) : 0 ≤ last ∧ last ≤ n := by
  rcases Nat.eq_zero_or_pos k with h0 | h0
  · have := h.2.2.2.1 h0; omega
  · have := h.2.2.2.2 h0; have := h.1 (k - 1) (by omega); omega
theorem Pre.succ {n : Nat} {l : List UInt8} {k : Nat} {last : Int} (h : Pre n l k last) (h1 : last + 1 ≤ (ch l k : Int) - 48) (h2 : (ch l k : Int) - 48 ≤ n) (h3 : ¬ ((ch l k : Int) - 48 - last) % 2 = 0) : Pre n l (k + 1) ((ch l k : Int) - 48) := by
  have hb := h.bounds
  refine ⟨fun i hi => ?_, fun _ => ?_, fun i hi => ?_, fun h0 => by omega, fun _ => by simp⟩
  · by_cases e : i = k
    · subst e; omega
    · exact h.1 i (by omega)
  · rcases Nat.eq_zero_or_pos k with h0 | h0
    · have := h.2.2.2.1 h0; subst h0; omega
    · exact h.2.1 h0
  · by_cases e : i + 1 = k
    · have := h.2.2.2.2 (by omega)
      have e2 : k - 1 = i := by omega
      rw [e2] at this
      rw [e]
      omega
    · exact h.2.2.1 i (by omega)
theorem Pre.next {n : Nat} {l : List UInt8} {k : Nat} {last : Int} (h : Pre n l k last) (hk : k < l.length) (hp : PlacesOK n l) : last + 1 ≤ (ch l k : Int) - 48 ∧ (ch l k : Int) - 48 ≤ n ∧ ¬ ((ch l k : Int) - 48 - last) % 2 = 0 := by
  have h1 := hp.2.2.1 k hk
  rcases Nat.eq_zero_or_pos k with h0 | h0
  · have := h.2.2.2.1 h0
    have h4 := hp.2.2.2.1
    subst h0; omega
  · have h2 := h.2.2.2.2 h0
    have h3 := hp.2.2.2.2.1 (k - 1) (by omega)
    rw [show k - 1 + 1 = k by omega] at h3
    omega
theorem Pre.ok {n : Nat} {l : List UInt8} {last : Int} (h : Pre n l l.length last) (h1 : 1 ≤ l.length) (h2 : l.length + 2 ≤ n) (h3 : ((n : Int) - last) % 2 = 0) : PlacesOK n l := by
  have := h.2.2.2.2 (by omega)
  have hb := h.1 (l.length - 1) (by omega)
  exact ⟨h1, h2, h.1, h.2.1 (by omega), h.2.2.1, by omega⟩
theorem Pre.not_ok {n : Nat} {l : List UInt8} {last : Int} (h : Pre n l l.length last) (h1 : 1 ≤ l.length) (h3 : ¬ ((n : Int) - last) % 2 = 0) : ¬ PlacesOK n l := fun hp => by
  have := h.2.2.2.2 (by omega)
  have hb := h.1 (l.length - 1) (by omega)
  have := hp.2.2.2.2.2
  omega

/-- the digits of a text -/
def digsI (l : List UInt8) : List Int := l.map fun c => (c.toNat : Int) - 48
def allDig (l : List UInt8) : Prop := ∀ i, i < l.length → 49 ≤ ch l i ∧ ch l i ≤ 56
/-- what arePlaces tells of the places zs -/
def ArePl (n : Int) (zs : List Int) : Prop :=
  0 < zs.length ∧ (zs.length : Int) ≠ n ∧ ¬ zs.getD 0 0 % 2 = 0 ∧ zs.getD (zs.length - 1) 0 % 2 = n % 2 ∧ zs.getD (zs.length - 1) 0 ≤ n ∧
    ∀ i, i + 1 < zs.length → zs.getD i 0 < zs.getD (i + 1) 0 ∧ ¬ (zs.getD (i + 1) 0 - zs.getD i 0) % 2 = 0
theorem digsI_get (l : List UInt8) (i : Nat) (h : i < l.length) : (digsI l).getD i 0 = (ch l i : Int) - 48 := by
  simp [digsI, ch, List.getElem?_eq_getElem h]
theorem digsI_length (l : List UInt8) : (digsI l).length = l.length := by simp [digsI]
theorem arePl_iff (n : Nat) (l : List UInt8) (h3 : 3 ≤ n) (h8 : n ≤ 8) : (allDig l ∧ ArePl n (digsI l)) ↔ PlacesOK n l := by
  constructor
  · rintro ⟨hd, h0, hne, hf, hl, hln, hc⟩
    rw [digsI_length] at h0 hne hl hln hc
    rw [digsI_get l 0 h0] at hf
    rw [digsI_get l (l.length - 1) (by omega)] at hl hln
    have hc' : ∀ i, i + 1 < l.length → ch l i < ch l (i + 1) ∧ (ch l i + ch l (i + 1)) % 2 = 1 := fun i hi => by
      have := hc i hi
      rw [digsI_get l i (by omega), digsI_get l (i + 1) hi] at this
      have := hd i (by omega); have := hd (i + 1) hi
      omega
    have grow : ∀ i, i < l.length → i + 49 ≤ ch l i ∧ (ch l i + i) % 2 = 1 := fun i => by
      induction i with
      | zero => intro h; have := hd 0 h; omega
      | succ i ih =>
        intro h
        have := ih (by omega)
        have := hc' i h
        omega
    have hg := grow (l.length - 1) (by omega)
    have hd1 := hd (l.length - 1) (by omega)
    have mono : ∀ d i, i + d < l.length → ch l i ≤ ch l (i + d) := fun d => by
      induction d with
      | zero => intro i _; exact Nat.le_refl _
      | succ d ih => intro i h; have := ih i (by omega); have := hc' (i + d) (by omega); rw [show i + (d + 1) = i + d + 1 by omega]; omega
    have hd0 := hd 0 h0
    refine ⟨h0, by omega, fun i hi => ?_, by omega, hc', by omega⟩
    have h1 := mono (l.length - 1 - i) i (by omega)
    rw [show i + (l.length - 1 - i) = l.length - 1 by omega] at h1
    have := hd i hi
    omega
  · rintro ⟨h1, h2, hr, hf, hc, hl⟩
    have hr0 := hr 0 (by omega)
    have hrl := hr (l.length - 1) (by omega)
    refine ⟨fun i hi => by have := hr i hi; omega, by rw [digsI_length]; omega, by rw [digsI_length]; omega, ?_, ?_, ?_, ?_⟩
    · rw [digsI_get l 0 (by omega)]; omega
    · rw [digsI_length, digsI_get l _ (by omega)]; omega
    · rw [digsI_length, digsI_get l _ (by omega)]; omega
    · intro i hi
      rw [digsI_length] at hi
      rw [digsI_get l i (by omega), digsI_get l (i + 1) hi]
      have := hc i hi; have := hr i (by omega); have := hr (i + 1) hi
      omega
theorem not_places_dash {n : Nat} : ¬ PlacesOK n [45] := fun h => by
  have := h.2.2.1 0 (by simp)
  simp [ch] at this
theorem isCh_len {n : Nat} {l : List UInt8} (h : IsCh n l) : 1 ≤ l.length ∧ l.length + 2 ≤ n := by
  rcases h.2.2 with ⟨rfl, _⟩ | h2
  · have := h.1; simp; omega
  · exact ⟨h2.1, h2.2.1⟩
end Go.Proofs.Ytgpjbmlemnjhfaa
