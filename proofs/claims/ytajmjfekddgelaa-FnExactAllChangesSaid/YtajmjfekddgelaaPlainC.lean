/- The rows that some rows generate, in plain lists: what both enumerate, in the same order. -/
import Derived.Test.YtajmjfekddgelaaWalkU
import Derived.Test.YtajmjfekddgelaaWalkY
import Derived.Test.YtajmjfekddgelaaKitMap
namespace Go.Proofs.Ytajmjfekddgelaa
open Go.RowKit Go.Maps
set_option linter.unusedVariables false

/-- one product: appended if it is new -/
def clStep (x : ByteArray) (L : List ByteArray) (g : ByteArray) : List ByteArray := if hasB L (timS x g) = true then L else L ++ [timS x g]
/-- the products of x with the first j rows -/
def clIn (x : ByteArray) (gs L : List ByteArray) (j : Nat) : List ByteArray := (gs.take j).foldl (clStep x) L
theorem clIn_succ (x : ByteArray) (gs L : List ByteArray) {j : Nat} (h : j < gs.length) : clIn x gs L (j + 1) = clStep x (clIn x gs L j) (getS gs j) := by
  have e : getS gs j = gs[j] := by simp [getS, List.getElem?_eq_getElem h]
  unfold clIn
  rw [List.take_succ_eq_append_getElem h, List.foldl_append, e]; rfl
def clTo (e : ByteArray) (gs : List ByteArray) : Nat → List ByteArray
  | 0 => [e]
  | k + 1 => if k < (clTo e gs k).length then clIn (getS (clTo e gs k) k) gs (clTo e gs k) gs.length else clTo e gs k
theorem clStep_le (x : ByteArray) (L : List ByteArray) (g : ByteArray) : L.length ≤ (clStep x L g).length ∧ (clStep x L g).length ≤ L.length + 1 := by
  unfold clStep
  split <;> simp
theorem clFold_le (x : ByteArray) : ∀ (gs L : List ByteArray), L.length ≤ (gs.foldl (clStep x) L).length ∧ (gs.foldl (clStep x) L).length ≤ L.length + gs.length
  | [], L => by simp
  | g :: t, L => by
    have h1 := clStep_le x L g
    have h2 := clFold_le x t (clStep x L g)
    simp only [List.foldl_cons, List.length_cons]
    omega
theorem clIn_le (x : ByteArray) (gs L : List ByteArray) (j : Nat) : L.length ≤ (clIn x gs L j).length ∧ (clIn x gs L j).length ≤ L.length + j := by
  have h := clFold_le x (gs.take j) L
  refine ⟨h.1, Nat.le_trans h.2 ?_⟩
  rw [List.length_take]; omega
theorem clFold_pre (x : ByteArray) : ∀ (gs L : List ByteArray), ∃ t, gs.foldl (clStep x) L = L ++ t
  | [], L => ⟨[], by simp⟩
  | g :: r, L => by
    obtain ⟨t, e⟩ := clFold_pre x r (clStep x L g)
    rw [List.foldl_cons, e]
    unfold clStep
    split
    · exact ⟨t, rfl⟩
    · exact ⟨[timS x g] ++ t, by rw [List.append_assoc]⟩
theorem clIn_get (x : ByteArray) (gs L : List ByteArray) (j : Nat) {k : Nat} (hk : k < L.length) : getS (clIn x gs L j) k = getS L k := by
  obtain ⟨t, e⟩ := clFold_pre x (gs.take j) L
  unfold clIn getS
  rw [e, List.getD_eq_getElem?_getD, List.getD_eq_getElem?_getD, List.getElem?_append_left hk]
theorem clIn_grow (x : ByteArray) (gs L : List ByteArray) {i j : Nat} (h : i ≤ j) : (clIn x gs L i).length ≤ (clIn x gs L j).length := by
  unfold clIn
  have e : gs.take j = gs.take i ++ (gs.take j).drop i := by
    conv => lhs; rw [← List.take_append_drop i (gs.take j)]
    rw [List.take_take, Nat.min_eq_left h]
  rw [e, List.foldl_append]
  exact (clFold_le x _ _).1
theorem clTo_succ (e : ByteArray) (gs : List ByteArray) {k : Nat} (h : k < (clTo e gs k).length) : clTo e gs (k + 1) = clIn (getS (clTo e gs k) k) gs (clTo e gs k) gs.length := by
  simp only [clTo]; rw [if_pos h]
theorem clTo_mono1 (e : ByteArray) (gs : List ByteArray) (k : Nat) : (clTo e gs k).length ≤ (clTo e gs (k + 1)).length := by
  by_cases h : k < (clTo e gs k).length
  · rw [clTo_succ e gs h]; exact (clIn_le _ _ _ _).1
  · simp only [clTo]; rw [if_neg h]; exact Nat.le_refl _
theorem clTo_mono (e : ByteArray) (gs : List ByteArray) (k d : Nat) : (clTo e gs k).length ≤ (clTo e gs (k + d)).length := by
  induction d with
  | zero => exact Nat.le_refl _
  | succ d ih => exact Nat.le_trans ih (clTo_mono1 e gs (k + d))
theorem clTo_fix (e : ByteArray) (gs : List ByteArray) {k : Nat} (h : (clTo e gs k).length ≤ k) (d : Nat) : clTo e gs (k + d) = clTo e gs k := by
  induction d with
  | zero => rfl
  | succ d ih =>
    show clTo e gs (k + d + 1) = _
    simp only [clTo]
    rw [if_neg (by rw [ih]; omega), ih]
/-- what lies there in the end, where at most m rows may lie there -/
def clAll (e : ByteArray) (gs : List ByteArray) (m : Nat) : List ByteArray := clTo e gs (m + 1)
def clOK (e : ByteArray) (gs : List ByteArray) (m : Nat) : Bool := decide ((clAll e gs m).length ≤ m)
theorem clOK_done {e : ByteArray} {gs : List ByteArray} {m k : Nat} (hk : (clTo e gs k).length ≤ k) (hm : k ≤ m) : clAll e gs m = clTo e gs k ∧ clOK e gs m = true := by
  have h : clAll e gs m = clTo e gs k := by
    have := clTo_fix e gs hk (m + 1 - k)
    rwa [show k + (m + 1 - k) = m + 1 by omega] at this
  refine ⟨h, ?_⟩
  unfold clOK
  rw [h]; exact decide_eq_true (by omega)
theorem clOK_no {e : ByteArray} {gs : List ByteArray} {m k : Nat} (hk : k ≤ m) (h : m < (clTo e gs (k + 1)).length) : clOK e gs m = false := by
  refine decide_eq_false fun h2 => ?_
  have h3 := clTo_mono e gs (k + 1) (m - k)
  rw [show k + 1 + (m - k) = m + 1 by omega] at h3
  unfold clAll at h2
  omega
theorem clTo_pos (e : ByteArray) (gs : List ByteArray) (k : Nat) : 1 ≤ (clTo e gs k).length := by
  have := clTo_mono e gs 0 k
  rw [Nat.zero_add] at this
  simpa [clTo] using this
/-- rows of one stage stay rows of that stage -/
def RowsN (n : Nat) (L : List ByteArray) : Prop := ∀ s ∈ L, IsRow (bs s) ∧ s.size = n
theorem timS_row {n : Nat} {x g : ByteArray} (hx : IsRow (bs x) ∧ x.size = n) (hg : IsRow (bs g) ∧ g.size = n) : IsRow (bs (timS x g)) ∧ (timS x g).size = n := by
  have e : bs (timS x g) = timesL (bs x) (bs g) := bs_mkS _
  have h1 : (bs x).length = (bs g).length := by rw [size_bs, size_bs, hx.2, hg.2]
  refine ⟨by rw [e]; exact isRow_times hx.1 hg.1 h1, ?_⟩
  rw [← size_bs, e, timesL_length, size_bs, hg.2]
theorem clFold_rows {n : Nat} {x : ByteArray} (hx : IsRow (bs x) ∧ x.size = n) : ∀ (gs L : List ByteArray), RowsN n gs → RowsN n L → RowsN n (gs.foldl (clStep x) L)
  | [], L, _, hL => hL
  | g :: t, L, hg, hL => by
    rw [List.foldl_cons]
    refine clFold_rows hx t _ (fun s hs => hg s (List.mem_cons_of_mem _ hs)) ?_
    unfold clStep
    split
    · exact hL
    · intro s hs
      rcases List.mem_append.1 hs with hs | hs
      · exact hL s hs
      · simp only [List.mem_singleton] at hs
        subst hs
        exact timS_row hx (hg g (List.mem_cons_self ..))
theorem clIn_rows {n : Nat} {x : ByteArray} (hx : IsRow (bs x) ∧ x.size = n) {gs L : List ByteArray} (hg : RowsN n gs) (hL : RowsN n L) (j : Nat) : RowsN n (clIn x gs L j) :=
  clFold_rows hx _ _ (fun s hs => hg s (List.mem_of_mem_take hs)) hL
theorem RowsN.get {n : Nat} {L : List ByteArray} (h : RowsN n L) {k : Nat} (hk : k < L.length) : IsRow (bs (getS L k)) ∧ (getS L k).size = n := by
  have e : getS L k = L[k] := by simp [getS, List.getElem?_eq_getElem hk]
  rw [e]; exact h _ (List.getElem_mem hk)
theorem clTo_rows {n : Nat} {e : ByteArray} {gs : List ByteArray} (he : IsRow (bs e) ∧ e.size = n) (hg : RowsN n gs) : ∀ k, RowsN n (clTo e gs k)
  | 0 => fun s hs => by simp [clTo] at hs; subst hs; exact he
  | k + 1 => by
    have ih := clTo_rows he hg k
    by_cases h : k < (clTo e gs k).length
    · rw [clTo_succ e gs h]; exact clIn_rows (ih.get h) hg ih _
    · simp only [clTo]; rw [if_neg h]; exact ih
/-- a row's place among the rows is its own -/
theorem lessN_perm {c : UInt8} {s t : List UInt8} (h : s.Perm t) : lessN c s = lessN c t := (h.filter _).length_eq
theorem lessN_lt {a b : UInt8} {t : List UInt8} (hab : a < b) (ha : a ∈ t) : lessN a t < lessN b t := by
  unfold lessN
  have h1 : (t.filter fun x => x < a).Sublist (t.filter fun x => x < b) := by
    have e : (t.filter fun x => x < a) = (t.filter fun x => x < b).filter fun x => x < a := by
      rw [List.filter_filter]
      refine List.filter_congr fun x _ => ?_
      by_cases hx : x < a
      · simp [hx, UInt8.lt_trans hx hab]
      · simp [hx]
    rw [e]; exact List.filter_sublist
  rcases Nat.lt_or_ge (t.filter fun x => x < a).length (t.filter fun x => x < b).length with h | h
  · exact h
  · have e := h1.eq_of_length_le h
    have hm : a ∈ t.filter fun x => x < b := List.mem_filter.2 ⟨ha, decide_eq_true hab⟩
    rw [← e] at hm
    have := of_decide_eq_true (List.mem_filter.1 hm).2
    exact absurd this (UInt8.lt_irrefl a)
theorem rankL_inj : ∀ (l1 l2 : List UInt8), l1.Perm l2 → rankL l1 = rankL l2 → l1 = l2
  | [], l2, hp, _ => (List.nil_perm.1 hp).symm
  | a :: s, [], hp, _ => absurd hp.length_eq (by simp)
  | a :: s, b :: t, hp, h => by
    have hl : s.length = t.length := by have := hp.length_eq; simpa using this
    have h1 := rankL_lt s
    have h2 := rankL_lt t
    simp only [rankL] at h
    rw [hl] at h h1
    have hF := factN_pos t.length
    have e1 : lessN a s = lessN b t := by
      rcases Nat.lt_trichotomy (lessN a s) (lessN b t) with h3 | h3 | h3
      · have := Nat.mul_le_mul_right (factN t.length) (show lessN a s + 1 ≤ lessN b t from h3)
        rw [Nat.succ_mul] at this; omega
      · exact h3
      · have := Nat.mul_le_mul_right (factN t.length) (show lessN b t + 1 ≤ lessN a s from h3)
        rw [Nat.succ_mul] at this; omega
    have e2 : rankL s = rankL t := by rw [e1] at h; omega
    have q1 : lessN a (a :: s) = lessN a s := by unfold lessN; rw [List.filter_cons_of_neg (by simp)]
    have q2 : lessN b (b :: t) = lessN b t := by unfold lessN; rw [List.filter_cons_of_neg (by simp)]
    have e3 : a = b := by
      rcases Nat.lt_trichotomy a.toNat b.toNat with h4 | h4 | h4
      · have := lessN_lt (UInt8.lt_iff_toNat_lt.2 h4) (List.mem_cons_self .. : a ∈ a :: s)
        rw [lessN_perm (c := b) hp, q1, q2] at this; omega
      · exact UInt8.toNat_inj.1 h4
      · have := lessN_lt (UInt8.lt_iff_toNat_lt.2 h4) (List.mem_cons_self .. : b ∈ b :: t)
        rw [← lessN_perm (c := a) hp, q1, q2] at this; omega
    subst e3
    rw [rankL_inj s t (List.perm_cons a |>.1 hp) e2]
theorem row_perm {l1 l2 : List UInt8} (h1 : IsRow l1) (h2 : IsRow l2) (hl : l1.length = l2.length) : l1.Perm l2 := by
  refine (List.perm_ext_iff_of_nodup h1.2.2.2 h2.2.2.2).2 fun c => ?_
  have key : ∀ {l m : List UInt8}, IsRow l → IsRow m → l.length = m.length → c ∈ l → c ∈ m := by
    intro l m hl hm he hc
    obtain ⟨x, hx, e⟩ := hm.mem_all (j := dig c) (by rw [← he]; exact hl.dig_lt hc)
    have e1 := toNat_dig hl hc
    have e2 := toNat_dig hm hx
    have : c = x := UInt8.toNat_inj.1 (by omega)
    exact this ▸ hx
  exact ⟨key h1 h2 hl, key h2 h1 hl.symm⟩
theorem rank_row_inj {n : Nat} {x y : ByteArray} (hx : IsRow (bs x) ∧ x.size = n) (hy : IsRow (bs y) ∧ y.size = n) (h : rankL (bs x) = rankL (bs y)) : x = y :=
  bs_inj (rankL_inj _ _ (row_perm hx.1 hy.1 (by rw [size_bs, size_bs, hx.2, hy.2])) h)
end Go.Proofs.Ytajmjfekddgelaa
