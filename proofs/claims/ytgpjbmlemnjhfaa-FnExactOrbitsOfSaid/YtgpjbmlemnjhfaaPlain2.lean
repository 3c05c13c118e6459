/- Plain facts: the inverse of a row, its sign, its rank, the row of a rank. -/
import Derived.Test.YtgpjbmlemnjhfaaPlain1
namespace Go.Proofs.Ytgpjbmlemnjhfaa

/-- the first k cells of a inverted into init -/
def turnTo (init a : List UInt8) : Nat → List UInt8
  | 0 => init
  | k + 1 => (turnTo init a k).set (dig (a.getD k 0)) (UInt8.ofNat (49 + k))
def turnL (a : List UInt8) : List UInt8 := turnTo (List.replicate a.length 0) a a.length
theorem turnTo_length (init a : List UInt8) : ∀ k, (turnTo init a k).length = init.length
  | 0 => rfl
  | k + 1 => by simp [turnTo, turnTo_length init a k]
theorem turnTo_get {init a : List UInt8} (ha : IsRow a) (hl : init.length = a.length) : ∀ k, k ≤ a.length → ∀ i, i < k → (turnTo init a k)[dig (a.getD i 0)]? = some (UInt8.ofNat (49 + i))
  | 0, _, i, h => by omega
  | k + 1, hk, i, hi => by
    have hd : ∀ j, j < a.length → dig (a.getD j 0) < a.length := fun j hj => ha.dig_lt (getD_mem hj)
    simp only [turnTo, List.getElem?_set]
    by_cases he : i = k
    · subst he
      rw [if_pos rfl, if_pos (by rw [turnTo_length, hl]; exact hd _ (by omega))]
    · rw [if_neg, turnTo_get ha hl k (by omega) i (by omega)]
      intro e
      exact he (getD_inj ha.2.2.2 (by omega) (by omega) (ha.dig_inj (getD_mem (by omega)) (getD_mem (by omega)) e.symm))
theorem row_index {a : List UInt8} (ha : IsRow a) {j : Nat} (hj : j < a.length) : ∃ i, i < a.length ∧ dig (a.getD i 0) = j := by
  obtain ⟨c, hc, rfl⟩ := ha.mem_all hj
  obtain ⟨i, hi, rfl⟩ := List.getElem_of_mem hc
  exact ⟨i, hi, by simp [List.getD, List.getElem?_eq_getElem hi]⟩
theorem turnTo_any {init a : List UInt8} (ha : IsRow a) (hl : init.length = a.length) : turnTo init a a.length = turnL a := by
  apply List.ext_getElem?
  intro j
  by_cases hj : j < a.length
  · obtain ⟨i, hi, rfl⟩ := row_index ha hj
    rw [turnTo_get ha hl _ (Nat.le_refl _) i hi, turnL, turnTo_get ha (by simp) _ (Nat.le_refl _) i hi]
  · rw [List.getElem?_eq_none (by rw [turnTo_length]; omega), List.getElem?_eq_none (by rw [turnL, turnTo_length]; simp; omega)]
theorem turnL_length (a : List UInt8) : (turnL a).length = a.length := by simp [turnL, turnTo_length]
theorem turnL_get {a : List UInt8} (ha : IsRow a) {i : Nat} (hi : i < a.length) : (turnL a).getD (dig (a.getD i 0)) 0 = UInt8.ofNat (49 + i) := by
  have := turnTo_get (init := List.replicate a.length 0) ha (by simp) _ (Nat.le_refl _) i hi
  rw [List.getD, turnL, this]; rfl
theorem isRow_turn {a : List UInt8} (ha : IsRow a) : IsRow (turnL a) := by
  have h8 := ha.2.1
  have hget : ∀ j (hj : j < (turnL a).length), ∃ i, i < a.length ∧ dig (a.getD i 0) = j ∧ (turnL a)[j] = UInt8.ofNat (49 + i) := by
    intro j hj
    rw [turnL_length] at hj
    obtain ⟨i, hi, e⟩ := row_index ha hj
    refine ⟨i, hi, e, ?_⟩
    have := turnL_get ha hi
    rw [e, List.getD, List.getElem?_eq_getElem (by rw [turnL_length]; exact hj)] at this
    exact this
  have htn : ∀ i, i < 8 → (UInt8.ofNat (49 + i)).toNat = 49 + i := fun i hi => by rw [UInt8.toNat_ofNat']; exact Nat.mod_eq_of_lt (by omega)
  refine ⟨by rw [turnL_length]; exact ha.1, by rw [turnL_length]; exact h8, ?_, ?_⟩
  · intro c hc
    obtain ⟨j, hj, rfl⟩ := List.getElem_of_mem hc
    obtain ⟨i, hi, _, e⟩ := hget j hj
    rw [e, htn i (by omega), turnL_length]; omega
  · rw [List.Nodup, List.pairwise_iff_getElem]
    intro i j hi hj hij he
    obtain ⟨p, hp, e1, e2⟩ := hget i hi
    obtain ⟨q, hq, e3, e4⟩ := hget j hj
    rw [e2, e4] at he
    have := congrArg UInt8.toNat he
    rw [htn p (by omega), htn q (by omega)] at this
    have : p = q := by omega
    subst this
    omega

/-- how many of t are below c -/
def lessN (c : UInt8) (t : List UInt8) : Nat := (t.filter fun x => x < c).length
def factN : Nat → Nat
  | 0 => 1
  | n + 1 => (n + 1) * factN n
def rankL : List UInt8 → Nat
  | [] => 0
  | c :: t => lessN c t * factN t.length + rankL t
theorem factN_pos : ∀ n, 0 < factN n
  | 0 => by simp [factN]
  | n + 1 => by simp only [factN]; exact Nat.mul_pos (by omega) (factN_pos n)
theorem factN_le : ∀ {a b : Nat}, a ≤ b → factN a ≤ factN b
  | a, b, h => by
    induction b with
    | zero => obtain rfl : a = 0 := by omega
              exact Nat.le_refl _
    | succ b ih =>
      rcases Nat.lt_or_ge a (b + 1) with h1 | h1
      · have := ih (by omega)
        have h2 : 1 * factN b ≤ (b + 1) * factN b := Nat.mul_le_mul_right _ (by omega)
        simp only [factN]; omega
      · obtain rfl : a = b + 1 := by omega
        exact Nat.le_refl _
theorem lessN_le (c : UInt8) (t : List UInt8) : lessN c t ≤ t.length := List.length_filter_le _ _
theorem rankL_lt : ∀ l : List UInt8, rankL l < factN l.length
  | [] => by simp [rankL, factN]
  | c :: t => by
    have h1 := rankL_lt t
    have h2 := lessN_le c t
    simp only [rankL, List.length_cons, factN, Nat.add_mul, Nat.one_mul]
    have h3 : lessN c t * factN t.length ≤ t.length * factN t.length := Nat.mul_le_mul_right _ h2
    omega
theorem lessN_snoc (c x : UInt8) (t : List UInt8) : lessN c (t ++ [x]) = lessN c t + if x < c then 1 else 0 := by
  unfold lessN; rw [List.filter_append, List.length_append]
  by_cases h : x < c <;> simp [h]

/-- the rest of a row from a place on, and its rank -/
theorem rankL_drop {l : List UInt8} {i : Nat} (hi : i < l.length) : rankL (l.drop i) = lessN l[i] (l.drop (i + 1)) * factN (l.length - (i + 1)) + rankL (l.drop (i + 1)) := by
  rw [List.drop_eq_getElem_cons hi]
  simp [rankL]

/-- pairs out of order: for each place the earlier cells that are greater -/
def oddIn (c : UInt8) (t : List UInt8) : Nat := (t.filter fun x => c < x).length
def oddTo (l : List UInt8) : Nat → Nat
  | 0 => 0
  | k + 1 => oddTo l k + oddIn (l.getD k 0) (l.take k)
def evenL (l : List UInt8) : Bool := oddTo l l.length % 2 == 0
theorem oddIn_snoc (c x : UInt8) (t : List UInt8) : oddIn c (t ++ [x]) = oddIn c t + if c < x then 1 else 0 := by
  unfold oddIn; rw [List.filter_append, List.length_append]
  by_cases h : c < x <;> simp [h]

/-- the row of a rank: take cell k / (i-1)!, go on with the others -/
def unrank : Nat → List UInt8 → Nat → List UInt8
  | 0, _, _ => []
  | i + 1, left, k => left.getD (k / factN i) 0 :: unrank i (left.eraseIdx (k / factN i)) (k % factN i)
theorem div_lt_of_fact {i k : Nat} (h : k < factN (i + 1)) : k / factN i < i + 1 := by
  rw [Nat.div_lt_iff_lt_mul (factN_pos i)]; exact h

end Go.Proofs.Ytgpjbmlemnjhfaa
