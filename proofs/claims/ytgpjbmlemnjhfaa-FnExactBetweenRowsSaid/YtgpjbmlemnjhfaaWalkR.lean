/- The walks of the places that stay in a change and of its swaps. -/
import Derived.Test.YtgpjbmlemnjhfaaWalkH
import Derived.Test.YtgpjbmlemnjhfaaKit4
namespace Go.Proofs.Ytgpjbmlemnjhfaa
open Go.RowKit
set_option linter.unusedVariables false

theorem getD_get {α : Type} (l : List α) (i : Nat) (d : α) (h : i < l.length) : l.getD i d = l[i] := by simp [List.getElem?_eq_getElem h]
noncomputable def plsI (s : ByteArray) : List Int := if bs s = [45] then [] else digsI (bs s)
def Plc (n : Int) (zs : List Int) : Prop := (∀ z ∈ zs, 1 ≤ z ∧ z ≤ n) ∧ zs.Pairwise (· < ·)
theorem pairwise_of_next {l : List UInt8} (h : ∀ i, i + 1 < l.length → ch l i < ch l (i + 1)) : (digsI l).Pairwise (· < ·) := by
  rw [List.pairwise_iff_getElem]
  intro i j hi hj hij
  rw [digsI_length] at hi hj
  have mono : ∀ d i, i + 1 + d < l.length → ch l i < ch l (i + 1 + d) := fun d => by
    induction d with
    | zero => intro i h1; exact h i h1
    | succ d ih => intro i h1; have := ih i (by omega); have := h (i + 1 + d) (by omega); rw [show i + 1 + (d + 1) = i + 1 + d + 1 by omega]; omega
  have h1 := mono (j - i - 1) i (by omega)
  rw [show i + 1 + (j - i - 1) = j by omega] at h1
  have e1 := digsI_get l i hi
  have e2 := digsI_get l j hj
  rw [getD_get _ _ _ (by rw [digsI_length]; exact hi)] at e1
  rw [getD_get _ _ _ (by rw [digsI_length]; exact hj)] at e2
  omega
theorem plc_of {n : Int} {s : ByteArray} (h : chB n s = true) : Plc n (plsI s) := by
  have h := of_cb h
  unfold plsI
  rcases h.2.2 with ⟨hd, _⟩ | hp
  · rw [if_pos hd]; exact ⟨fun z hz => (List.not_mem_nil hz).elim, List.Pairwise.nil⟩
  · have hne : bs s ≠ [45] := by
      intro e
      have := hp.2.2.1 0 (by rw [e]; simp)
      rw [e] at this; simp [ch] at this
    rw [if_neg hne]
    refine ⟨fun z hz => ?_, pairwise_of_next fun i hi => (hp.2.2.2.2.1 i hi).1⟩
    obtain ⟨c, hc, rfl⟩ := List.mem_map.1 hz
    obtain ⟨i, hi, rfl⟩ := List.getElem_of_mem hc
    have := hp.2.2.1 i hi
    unfold ch at this
    rw [getD_get _ _ _ hi] at this
    have := h.1
    omega
theorem ch_stage {n : Int} {s : ByteArray} (h : chB n s = true) : 3 ≤ n ∧ n ≤ 8 := by
  have h := of_cb h
  have := h.1; have := h.2.1; omega
theorem ch_size {n : Int} {s : ByteArray} (h : chB n s = true) : 1 ≤ s.size ∧ s.size ≤ 6 := by
  have h1 := isCh_len (of_cb h)
  have := (of_cb h).2.1
  rw [size_bs] at h1; omega
theorem allDig_of {n : Int} {s : ByteArray} (h : chB n s = true) (hd : bs s ≠ [45]) : allDig (bs s) := by
  have h := of_cb h
  rcases h.2.2 with ⟨hd2, _⟩ | hp
  · exact absurd hd2 hd
  · intro i hi; have := hp.2.2.1 i hi; have := h.2.1; omega
theorem plsI_len (s : ByteArray) : (plsI s).length ≤ s.size := by
  unfold plsI
  split
  · simp
  · rw [digsI_length, size_bs]; omega
noncomputable def stayB (s : ByteArray) (p : Int) : Bool := decide (p ∈ plsI s)
theorem stay_mem {s : ByteArray} {p : Int} (hp : 1 ≤ p) : (p ∈ digsI (bs s)) ↔ p ∈ plsI s := by
  unfold plsI
  split
  · rename_i h
    rw [h]
    simp [digsI]; omega
  · exact Iff.rfl
theorem filt_step {zs : List Int} (h : zs.Pairwise (· < ·)) (p : Int) : zs.filter (fun z => decide (z < p + 1)) = zs.filter (fun z => decide (z < p)) ++ (if decide (p ∈ zs) = true then [p] else []) := by
  induction zs with
  | nil => simp
  | cons z t ih =>
    rw [List.pairwise_cons] at h
    have ih := ih h.2
    by_cases h1 : z < p
    · have h2 : z < p + 1 := by omega
      have h3 : (p ∈ z :: t) ↔ p ∈ t := by
        rw [List.mem_cons]
        constructor
        · rintro (e | e)
          · omega
          · exact e
        · exact .inr
      rw [List.filter_cons_of_pos (by simpa using h2), List.filter_cons_of_pos (by simpa using h1), ih]
      simp only [List.cons_append, h3]
    · have e0 : ∀ q : Int, q ≤ z + 1 → t.filter (fun z => decide (z < q)) = [] := fun q hq => by
        rw [List.filter_eq_nil_iff]
        intro a ha
        have := h.1 a ha
        simp; omega
      rw [List.filter_cons_of_neg (p := fun z => decide (z < p)) (by simpa using h1), e0 p (by omega)]
      by_cases h2 : z = p
      · subst h2
        rw [List.filter_cons_of_pos (by simp; omega), e0 (z + 1) (by omega)]
        simp
      · have h3 : ¬ p ∈ z :: t := by
          rw [List.mem_cons]
          rintro (e | e)
          · omega
          · have := h.1 p e; omega
        rw [List.filter_cons_of_neg (by simp; omega), e0 (p + 1) (by omega)]
        simp [h3]
theorem filt_start {n : Int} {zs : List Int} (h : Plc n zs) : zs.filter (fun z => decide (z < 1)) = [] := by
  rw [List.filter_eq_nil_iff]
  intro a ha
  have := h.1 a ha
  simp; omega
theorem filt_end {n p : Int} {zs : List Int} (h : Plc n zs) (hp : n < p) : zs.filter (fun z => decide (z < p)) = zs := by
  rw [List.filter_eq_self]
  intro a ha
  have := h.1 a ha
  simp; omega
theorem filt_len (zs : List Int) (p : Int) : (zs.filter (fun z => decide (z < p))).length ≤ zs.length := List.length_filter_le _ _

/-- the swaps of k places from p on, where S tells which stay -/
def swF (S : Int → Bool) : Nat → Int → List Int
  | 0, _ => []
  | 1, p => if S p = true then [] else [p]
  | k + 2, p => if S p = true then swF S (k + 1) (p + 1) else p :: swF S k (p + 2)
theorem swF_stay {S : Int → Bool} {n p : Int} (hp : p < n) (h : S p = true) : swF S (n - p).toNat p = swF S (n - (p + 1)).toNat (p + 1) := by
  obtain ⟨k, hk⟩ : ∃ k, (n - p).toNat = k + 1 := ⟨(n - p).toNat - 1, by omega⟩
  have h2 : (n - (p + 1)).toNat = k := by omega
  rw [hk, h2]
  cases k with
  | zero => simp [swF, h]
  | succ k => rw [swF, if_pos h]
theorem swF_swap {S : Int → Bool} {n p : Int} (hp : p < n) (h : S p = false) : swF S (n - p).toNat p = p :: swF S (n - (p + 2)).toNat (p + 2) := by
  obtain ⟨k, hk⟩ : ∃ k, (n - p).toNat = k + 1 := ⟨(n - p).toNat - 1, by omega⟩
  have h2 : (n - (p + 2)).toNat = k - 1 := by omega
  rw [hk, h2]
  cases k with
  | zero => simp [swF, h]
  | succ k => rw [swF, if_neg (by rw [h]; simp)]; rfl
theorem swF_end {S : Int → Bool} {n p : Int} (hp : n ≤ p) : swF S (n - p).toNat p = [] := by
  rw [show (n - p).toNat = 0 by omega]; rfl
theorem swF_length (S : Int → Bool) : ∀ (k : Nat) (p : Int), (swF S k p).length ≤ k
  | 0, _ => by simp [swF]
  | 1, p => by
    rw [swF]; split <;> simp
  | k + 2, p => by
    have h1 := swF_length S (k + 1) (p + 1)
    have h2 := swF_length S k (p + 2)
    rw [swF]; split
    · omega
    · rw [List.length_cons]; omega
noncomputable def swI (n : Int) (s : ByteArray) : List Int := swF (stayB s) (n - 1).toNat 1

set_option maxRecDepth 100000 in
set_option maxHeartbeats 1000000 in
theorem l2Stays_any (s : ByteArray) (p : Int) (w : World) (hm : s.size ≤ 2097152) (hp : 1 ≤ p) : Calls Try.prog 94 #[.string s, .int .i64 p] w fun e w' => e = .returned (.bool (stayB s p)) ∧ w = w' := by
  have HE := Lib.hid (stay_mem (s := s) hp)
  go_enter Try.func94, Try.ntmps94
  go_wp2
  go_loop [5] (fun i => ∃ k : Nat, k ≤ s.size ∧ i = .int .i64 k ∧ Hid (∀ j, j < k → (ch (bs s) j : Int) - 48 ≠ p)) (fun i => s.size - (intOf i).toNat)
  case atStart => exact ⟨0, by omega, rfl, fun j hj => by omega⟩
  case round =>
    obtain ⟨k, hk, rfl, HK⟩ := hrel
    by_cases hlt : k < s.size
    · have i1 : (k : Int) < (s.size : Int) := by omega
      have b1 : 0 ≤ (s[k].toNat : Int) := by omega
      have b2 : (s[k].toNat : Int) ≤ 255 := by have := UInt8.toNat_lt s[k]; omega
      by_cases he : (s[k].toNat : Int) - 48 = p
      · have hee : ((s[k].toNat : Int) - 48 == p) = true := by simp [he]
        have E : Hid (stayB s p = true) := by
          unfold Hid stayB
          rw [decide_eq_true_eq, ← HE.out, digsI, List.mem_map]
          exact ⟨s[k], get_mem s k hlt, he⟩
        clear he
        go_wp2
        go_ret
        exact ⟨ret_b E.out, rfl⟩
      · have hee : ((s[k].toNat : Int) - 48 == p) = false := by simp [he]
        have HK1 : Hid (∀ j, j < k + 1 → (ch (bs s) j : Int) - 48 ≠ p) := by
          intro j hj
          by_cases e : j = k
          · subst e; rw [ch_bs s j hlt]; exact he
          · exact HK.out j (by omega)
        clear he
        go_wp2
        go_round
        case rel => exact ⟨k + 1, by omega, by go_num, HK1.out⟩
        case measure => simp [intOf]; omega
    · have E : Hid (stayB s p = false) := by
        unfold Hid stayB
        rw [decide_eq_false_iff_not, ← HE.out, digsI, List.mem_map]
        rintro ⟨c, hc, rfl⟩
        obtain ⟨i, hi, rfl⟩ := List.getElem_of_mem hc
        have hi2 := hi
        rw [size_bs] at hi2
        have := HK.out i (by omega)
        unfold ch at this
        rw [getD_get _ _ _ hi] at this
        exact this rfl
      go_wp2
      go_ret
      exact ⟨ret_b E.out, rfl⟩
end Go.Proofs.Ytgpjbmlemnjhfaa
