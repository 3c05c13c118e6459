/- OrbitsOf: what both sides hand back, in plain lists. -/
import Derived.Test.YtgpjbmlemnjhfaaPlainOr
import Derived.Test.YtgpjbmlemnjhfaaPlainCy
import Derived.Test.YtgpjbmlemnjhfaaWalkU
import Derived.Test.YtgpjbmlemnjhfaaNest
namespace Go.Proofs.Ytgpjbmlemnjhfaa
open Go.RowKit
set_option linter.unusedVariables false

def gsL (ss : List ByteArray) : List (Nat → Nat) := ss.map fun s => goL (bs s)
theorem gsL_get {ss : List ByteArray} {j : Nat} {s : ByteArray} (h : ss[j]? = some s) : (gsL ss)[j]? = some (goL (bs s)) := by
  unfold gsL; rw [List.getElem?_map, h]; rfl
theorem gsL_len (ss : List ByteArray) : (gsL ss).length = ss.length := by simp [gsL]
theorem gens_of {m : Nat} {ss : List ByteArray} (h : ∀ s ∈ ss, IsRow (bs s) ∧ s.size = m) : Gens m (gsL ss) := fun g hg => by
  obtain ⟨s, hs, rfl⟩ := List.mem_map.1 hg
  obtain ⟨h1, h2⟩ := h s hs
  have hl : (bs s).length = m := by rw [size_bs]; exact h2
  exact ⟨fun p p1 p2 => by have := goL_in h1 p1 (by omega); rw [hl] at this; exact this, fun p q p1 p2 q1 q2 e => goL_inj h1 p1 (by omega) q1 (by omega) e⟩
def LO (m : Nat) (ss : List ByteArray) : Nat → Nat := labF m (gsL ss) m
def obZ (m : Nat) (L : Nat → Nat) (k : Nat) : List (List Int) := (orbL m L k).map natI
theorem obZ_succ (m : Nat) (L : Nat → Nat) (k : Nat) : obZ m L (k + 1) = if clsL m L (k + 1) = [] then obZ m L k else obZ m L k ++ [natI (clsL m L (k + 1))] := by
  unfold obZ
  simp only [orbL]
  split <;> simp
theorem obZ_len (m : Nat) (L : Nat → Nat) (k : Nat) : (obZ m L k).length ≤ k := by unfold obZ; rw [List.length_map]; exact orb_len k
theorem tot_app2 : ∀ (a b : List (List Int)), tot (a ++ b) = tot a + tot b
  | [], b => by simp [tot]
  | z :: t, b => by simp only [List.cons_append, tot, tot_app2 t b]; omega
theorem natI_len2 (l : List Nat) : (natI l).length = l.length := by simp [natI]
theorem obZ_tot (m : Nat) (L : Nat → Nat) : ∀ k, tot (obZ m L k) ≤ k * m
  | 0 => by simp [obZ, orbL, tot]
  | k + 1 => by
    have := obZ_tot m L k
    have h2 := cls_len (n := m) (L := L) (m := k + 1)
    have h3 : (k + 1) * m = k * m + m := Nat.succ_mul k m
    rw [obZ_succ]
    split
    · omega
    · rw [tot_app2]; simp only [tot]; rw [natI_len2]; omega
def ok_OrbitsOf (ss : List ByteArray) (n : Int) : Bool := inB n 3 8 && rowsOfB n ss
noncomputable def out_OrbitsOf (ss : List ByteArray) (n : Int) : List (List Int) := if ok_OrbitsOf ss n = true then obZ n.toNat (LO n.toNat ss) n.toNat else []
theorem len_OrbitsOf (ss : List ByteArray) (n : Int) (hn : ss.length ≤ 1048576) : tot (out_OrbitsOf ss n) ≤ 4194304 := by
  unfold out_OrbitsOf
  split
  · rename_i h
    have h1 : 3 ≤ n ∧ n ≤ 8 := by
      unfold ok_OrbitsOf at h
      rw [Bool.and_eq_true] at h
      simpa [inB] using h.1
    have h2 := obZ_tot n.toNat (LO n.toNat ss) n.toNat
    have h3 : n.toNat * n.toNat ≤ 8 * 8 := Nat.mul_le_mul (by omega) (by omega)
    omega
  · simp [tot]
theorem LO_lab {m : Nat} {ss : List ByteArray} (h : ∀ s ∈ ss, IsRow (bs s) ∧ s.size = m) (hm : 1 ≤ m) : Lab m (gsL ss) (LO m ss) := lab_lab (gens_of h) hm
end Go.Proofs.Ytgpjbmlemnjhfaa
