/- Pairs of equal texts in a list, in plain lists: what both sides gather. -/
import Derived.Test.YtgpjbmlemnjhfaaNest
import Derived.Test.YtgpjbmlemnjhfaaWalkY
import Derived.Test.YtgpjbmlemnjhfaaKitMap
import Derived.Maps.OwnSet
namespace Go.Proofs.Ytgpjbmlemnjhfaa
open Go.RowKit Go.Maps
set_option linter.unusedVariables false

def eqS (ss : List ByteArray) (i j : Nat) : Bool := decide (bs (getS ss i) = bs (getS ss j))
theorem eqS_true {ss : List ByteArray} {i j : Nat} : eqS ss i j = true ↔ getS ss i = getS ss j := by
  unfold eqS
  rw [decide_eq_true_iff]
  exact ⟨bs_inj, fun h => by rw [h]⟩
/-- the pairs (i, j) with j below k -/
def reR (ss : List ByteArray) (i : Nat) : Nat → List (List Int)
  | 0 => []
  | k + 1 => if i < k ∧ eqS ss i k = true then reR ss i k ++ [[(i : Int), (k : Int)]] else reR ss i k
def reP (ss : List ByteArray) (n : Nat) : Nat → List (List Int)
  | 0 => []
  | i + 1 => reP ss n i ++ reR ss i n
def reO (ss : List ByteArray) : List (List Int) := (reP ss ss.length ss.length).take 100
theorem reR_low (ss : List ByteArray) (i : Nat) : ∀ k, k ≤ i + 1 → reR ss i k = []
  | 0, _ => rfl
  | k + 1, h => by
    simp only [reR]
    rw [if_neg (by omega)]
    exact reR_low ss i k (by omega)
theorem reR_skip (ss : List ByteArray) (i : Nat) {k : Nat} : ∀ d, (∀ q, k ≤ q → q < k + d → i < q → eqS ss i q = false) → reR ss i (k + d) = reR ss i k
  | 0, _ => rfl
  | d + 1, h => by
    show reR ss i (k + d + 1) = _
    simp only [reR]
    rw [if_neg]
    · exact reR_skip ss i d fun q h1 h2 => h q h1 (by omega)
    · rintro ⟨h1, h2⟩
      have := h (k + d) (by omega) (by omega) h1
      rw [h2] at this; cases this
theorem reR_pre (ss : List ByteArray) (i k : Nat) : ∀ d, ∃ t, reR ss i (k + d) = reR ss i k ++ t
  | 0 => ⟨[], by simp⟩
  | d + 1 => by
    obtain ⟨t, e⟩ := reR_pre ss i k d
    show ∃ t, reR ss i (k + d + 1) = _
    simp only [reR]
    split
    · exact ⟨t ++ [[(i : Int), ((k + d : Nat) : Int)]], by rw [e, List.append_assoc]⟩
    · exact ⟨t, e⟩
theorem reP_pre (ss : List ByteArray) (n i : Nat) : ∀ d, ∃ t, reP ss n (i + d) = reP ss n i ++ t
  | 0 => ⟨[], by simp⟩
  | d + 1 => by
    obtain ⟨t, e⟩ := reP_pre ss n i d
    refine ⟨t ++ reR ss (i + d) n, ?_⟩
    show reP ss n (i + d) ++ reR ss (i + d) n = _
    rw [e, List.append_assoc]
/-- what lies there when pair (i, k) is looked at -/
def reA (ss : List ByteArray) (n i k : Nat) : List (List Int) := reP ss n i ++ reR ss i k
theorem take_pre {α : Type} {a b : List α} (h : ∃ t, b = a ++ t) {m : Nat} (hm : m ≤ a.length) : b.take m = a.take m := by
  obtain ⟨t, rfl⟩ := h
  rw [List.take_append_of_le_length hm]
theorem reA_all {ss : List ByteArray} {n i k : Nat} (hi : i < n) (hk : k ≤ n) (hm : 100 ≤ (reA ss n i k).length) : (reP ss n n).take 100 = (reA ss n i k).take 100 := by
  refine take_pre ?_ hm
  obtain ⟨t1, e1⟩ := reR_pre ss i k (n - k)
  rw [show k + (n - k) = n by omega] at e1
  obtain ⟨t2, e2⟩ := reP_pre ss n (i + 1) (n - (i + 1))
  rw [show i + 1 + (n - (i + 1)) = n by omega] at e2
  refine ⟨t1 ++ t2, ?_⟩
  rw [e2]
  unfold reA
  show reP ss n i ++ reR ss i n ++ t2 = _
  rw [e1]; simp
theorem reA_end (ss : List ByteArray) (n i : Nat) : reA ss n i n = reA ss n (i + 1) 0 := by simp [reA, reR, reP]
theorem reA_start (ss : List ByteArray) (n i : Nat) : reA ss n i (i + 1) = reA ss n i 0 := by
  unfold reA
  rw [reR_low ss i (i + 1) (by omega), reR_low ss i 0 (by omega)]
theorem reA_hit {ss : List ByteArray} {n i k : Nat} (h : i < k) (he : eqS ss i k = true) : reA ss n i (k + 1) = reA ss n i k ++ [[(i : Int), (k : Int)]] := by
  unfold reA
  simp only [reR]
  rw [if_pos ⟨h, he⟩, List.append_assoc]
theorem reA_miss {ss : List ByteArray} {n i k : Nat} (he : eqS ss i k = false) : reA ss n i (k + 1) = reA ss n i k := by
  unfold reA
  simp only [reR]
  rw [if_neg (fun h => by rw [h.2] at he; cases he)]
/-- all its members have two numbers -/
theorem reR_two (ss : List ByteArray) (i : Nat) : ∀ k, ∀ z ∈ reR ss i k, z.length = 2
  | 0 => fun z hz => by simp [reR] at hz
  | k + 1 => fun z hz => by
    simp only [reR] at hz
    split at hz
    · rcases List.mem_append.1 hz with h | h
      · exact reR_two ss i k z h
      · simp only [List.mem_singleton] at h; subst h; rfl
    · exact reR_two ss i k z hz
theorem reP_two (ss : List ByteArray) (n : Nat) : ∀ i, ∀ z ∈ reP ss n i, z.length = 2
  | 0 => fun z hz => by simp [reP] at hz
  | i + 1 => fun z hz => by
    rcases List.mem_append.1 (show z ∈ reP ss n i ++ reR ss i n from hz) with h | h
    · exact reP_two ss n i z h
    · exact reR_two ss i n z h
theorem tot_two : ∀ (l : List (List Int)), (∀ z ∈ l, z.length = 2) → tot l = 2 * l.length
  | [], _ => rfl
  | z :: t, h => by
    have h1 := h z (List.mem_cons_self ..)
    have h2 := tot_two t fun y hy => h y (List.mem_cons_of_mem _ hy)
    simp only [tot, List.length_cons]; omega
theorem reO_tot (ss : List ByteArray) : tot (reO ss) ≤ 200 := by
  have h := tot_two (reO ss) fun z hz => reP_two ss ss.length ss.length z (List.mem_of_mem_take (show z ∈ (reP ss ss.length ss.length).take 100 from hz))
  rw [h]
  have : (reO ss).length ≤ 100 := by unfold reO; rw [List.length_take]; omega
  omega
/-- the least place, of the last c ones, that holds x -/
def fx (ss : List ByteArray) (n : Nat) : Nat → ByteArray → Option Nat
  | 0, _ => none
  | c + 1, x => if bs (getS ss (n - 1 - c)) = bs x then some (n - 1 - c) else fx ss n c x
theorem fx_some {ss : List ByteArray} {n : Nat} {x : ByteArray} : ∀ {c j : Nat}, c ≤ n → fx ss n c x = some j → n - c ≤ j ∧ j < n ∧ getS ss j = x ∧ ∀ q, n - c ≤ q → q < j → getS ss q ≠ x
  | 0, j, _, h => by simp [fx] at h
  | c + 1, j, hc, h => by
    simp only [fx] at h
    split at h
    · rename_i he
      injection h with h
      subst h
      exact ⟨by omega, by omega, bs_inj he, fun q h1 h2 => by omega⟩
    · rename_i he
      have ih := fx_some (by omega) h
      refine ⟨by omega, ih.2.1, ih.2.2.1, fun q h1 h2 => ?_⟩
      by_cases e : q = n - 1 - c
      · subst e; intro e2; exact he (by rw [e2])
      · exact ih.2.2.2 q (by omega) h2
theorem fx_none {ss : List ByteArray} {n : Nat} {x : ByteArray} : ∀ {c : Nat}, c ≤ n → fx ss n c x = none → ∀ q, n - c ≤ q → q < n → getS ss q ≠ x
  | 0, _, _ => fun q h1 h2 => by omega
  | c + 1, hc, h => by
    simp only [fx] at h
    split at h
    · cases h
    · rename_i he
      intro q h1 h2
      by_cases e : q = n - 1 - c
      · subst e; intro e2; exact he (by rw [e2])
      · exact fx_none (by omega) h q (by omega) h2
/-- the next place with the same text, 0 for none -/
def nx (ss : List ByteArray) (n i : Nat) : Nat := (fx ss n (n - 1 - i) (getS ss i)).getD 0
theorem nx_pos {ss : List ByteArray} {n i : Nat} (hi : i < n) (h : 0 < nx ss n i) : i < nx ss n i ∧ nx ss n i < n ∧ eqS ss i (nx ss n i) = true ∧ ∀ q, i < q → q < nx ss n i → eqS ss i q = false := by
  unfold nx at *
  cases e : fx ss n (n - 1 - i) (getS ss i) with
  | none => rw [e] at h; simp at h
  | some j =>
    have h2 := fx_some (by omega) e
    simp only [Option.getD_some]
    refine ⟨by omega, h2.2.1, eqS_true.2 h2.2.2.1.symm, fun q h3 h4 => ?_⟩
    have h5 := h2.2.2.2 q (by omega) h4
    cases e2 : eqS ss i q with
    | false => rfl
    | true => exact absurd (eqS_true.1 e2).symm h5
theorem nx_zero {ss : List ByteArray} {n i : Nat} (hi : i < n) (h : nx ss n i = 0) : ∀ q, i < q → q < n → eqS ss i q = false := by
  unfold nx at h
  intro q h3 h4
  cases e2 : eqS ss i q with
  | false => rfl
  | true =>
    exfalso
    have e3 := (eqS_true.1 e2).symm
    cases e : fx ss n (n - 1 - i) (getS ss i) with
    | none => exact fx_none (by omega) e q (by omega) h4 e3
    | some j =>
      rw [e] at h
      simp only [Option.getD_some] at h
      have := (fx_some (by omega) e).1
      omega
/-- from pair (i, k) to the next one -/
theorem reA_next {ss : List ByteArray} {n i k : Nat} (hi : i < k) (hk : k < n) (he : eqS ss i k = true) : reA ss n i k ++ [[(i : Int), (k : Int)]] = reA ss n i (if nx ss n k = 0 then n else nx ss n k) := by
  have hik : ∀ q, eqS ss k q = eqS ss i q := fun q => by
    have e := eqS_true.1 he
    unfold eqS; rw [e]
  rw [← reA_hit hi he]
  by_cases h : nx ss n k = 0
  · rw [if_pos h]
    unfold reA
    congr 1
    have := reR_skip ss i (k := k + 1) (n - (k + 1)) fun q h1 h2 h3 => by rw [← hik]; exact nx_zero hk h q (by omega) (by omega)
    rw [show k + 1 + (n - (k + 1)) = n by omega] at this
    exact this.symm
  · rw [if_neg h]
    have hp := nx_pos hk (Nat.pos_of_ne_zero h)
    have hp1 := hp.1
    unfold reA
    congr 1
    have := reR_skip ss i (k := k + 1) (nx ss n k - (k + 1)) fun q h1 h2 h3 => by rw [← hik]; exact hp.2.2.2 q (by omega) (by omega)
    rw [show k + 1 + (nx ss n k - (k + 1)) = nx ss n k by omega] at this
    exact this.symm
theorem reA_first {ss : List ByteArray} {n i : Nat} (hi : i < n) : reA ss n i 0 = reA ss n i (if nx ss n i = 0 then n else nx ss n i) := by
  rw [← reA_start]
  by_cases h : nx ss n i = 0
  · rw [if_pos h]
    unfold reA
    congr 1
    have := reR_skip ss i (k := i + 1) (n - (i + 1)) fun q h1 h2 h3 => nx_zero hi h q (by omega) (by omega)
    rw [show i + 1 + (n - (i + 1)) = n by omega] at this
    exact this.symm
  · rw [if_neg h]
    have hp := nx_pos hi (Nat.pos_of_ne_zero h)
    have hp1 := hp.1
    unfold reA
    congr 1
    have := reR_skip ss i (k := i + 1) (nx ss n i - (i + 1)) fun q h1 h2 h3 => hp.2.2.2 q (by omega) (by omega)
    rw [show i + 1 + (nx ss n i - (i + 1)) = nx ss n i by omega] at this
    exact this.symm
/-- the program's map when the last c places have been looked at -/
def laC (ss : List ByteArray) (n : Nat) : Nat → DataW Unit
  | 0 => .map []
  | c + 1 => (laC ss n c).put (keyL (getS ss (n - 1 - c))) (.lit (.int .i64 ((n - 1 - c : Nat) : Int)))
theorem laC_map (ss : List ByteArray) (n : Nat) : ∀ c, IsMap (laC ss n c)
  | 0 => ⟨[], rfl⟩
  | c + 1 => isMap_put (laC_map ss n c) _ _
theorem laC_at (ss : List ByteArray) (n : Nat) (x : ByteArray) (z : DataW Unit) : ∀ c, (laC ss n c).atKey (keyL x) z = match fx ss n c x with | some j => .lit (.int .i64 ((j : Nat) : Int)) | none => z
  | 0 => rfl
  | c + 1 => by
    simp only [laC, fx]
    by_cases h : bs (getS ss (n - 1 - c)) = bs x
    · rw [if_pos h, bs_inj h, atKey_put_same (laC_map ss n c) (by unfold keyL; trivial)]
    · rw [if_neg h, atKey_put_other (fun e => h (by rw [keyL_inj e])), laC_at ss n x z c]
theorem laC_has (ss : List ByteArray) (n : Nat) (x : ByteArray) : ∀ c, has (laC ss n c) (keyL x) = (fx ss n c x).isSome
  | 0 => rfl
  | c + 1 => by
    simp only [laC, fx]
    by_cases h : bs (getS ss (n - 1 - c)) = bs x
    · rw [if_pos h, bs_inj h, has_put_same (laC_map ss n c) (by unfold keyL; trivial)]; rfl
    · rw [if_neg h, has_put_other (fun e => h (by rw [keyL_inj e])), laC_has ss n x c]
/-- the array of next places when the last c places have been looked at -/
def nxL (ss : List ByteArray) (n c : Nat) : List Int := (List.range n).map fun j => if n - c ≤ j then ((nx ss n j : Nat) : Int) else 0
theorem nxL_zero (ss : List ByteArray) (n : Nat) : nxL ss n 0 = List.replicate n 0 := by
  apply List.ext_getElem
  · simp [nxL]
  · intro i h1 h2
    simp only [nxL, List.getElem_map, List.getElem_range, List.getElem_replicate]
    rw [if_neg]; simp at h2; omega
theorem nxL_step (ss : List ByteArray) {n c : Nat} (hc : c < n) : (nxL ss n c).set (n - 1 - c) ((nx ss n (n - 1 - c) : Nat) : Int) = nxL ss n (c + 1) := by
  apply List.ext_getElem
  · simp [nxL]
  · intro i h1 h2
    rw [List.getElem_set]
    simp only [nxL, List.getElem_map, List.getElem_range]
    by_cases e : n - 1 - c = i
    · subst e; rw [if_pos rfl, if_pos (by omega)]
    · rw [if_neg e]
      by_cases h3 : n - c ≤ i
      · rw [if_pos h3, if_pos (by omega)]
      · rw [if_neg h3, if_neg (by omega)]
theorem nxL_same (ss : List ByteArray) {n c : Nat} (hc : c < n) (h : nx ss n (n - 1 - c) = 0) : nxL ss n (c + 1) = nxL ss n c := by
  apply List.ext_getElem
  · simp [nxL]
  · intro i h1 h2
    simp only [nxL, List.getElem_map, List.getElem_range]
    by_cases e : n - 1 - c = i
    · subst e; rw [if_pos (by omega), if_neg (by omega), h]; rfl
    · by_cases h3 : n - c ≤ i
      · rw [if_pos h3, if_pos (by omega)]
      · rw [if_neg h3, if_neg (by omega)]
theorem nxL_get (ss : List ByteArray) {n i : Nat} (hi : i < n) : (nxL ss n n)[i]? = some ((nx ss n i : Nat) : Int) := by
  unfold nxL
  rw [List.getElem?_map, List.getElem?_range hi]
  simp
end Go.Proofs.Ytgpjbmlemnjhfaa
