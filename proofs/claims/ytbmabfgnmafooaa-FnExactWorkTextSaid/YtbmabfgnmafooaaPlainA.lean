/- A bell moves by one place at most under a change; the text of a path. -/
import Derived.Test.YtbmabfgnmafooaaWalkPb
namespace Go.Proofs.Ytbmabfgnmafooaa
open Go.RowKit
set_option linter.unusedVariables false

def Dg (l : List UInt8) (j : Nat) : Nat := dig (l.getD j 0)
def Adj (l : List UInt8) (q : Nat) : Prop := ∀ j, j < l.length → Dg l j ≤ j + 1 ∧ j ≤ Dg l j + 1 ∧ (q ≤ j → Dg l j = j)
theorem Adj.mono {l : List UInt8} {q q' : Nat} (h : Adj l q) (hq : q ≤ q') : Adj l q' := fun j hj => ⟨(h j hj).1, (h j hj).2.1, fun h2 => (h j hj).2.2 (by omega)⟩
theorem adj_rounds {n : Nat} (h8 : n ≤ 8) : Adj (roundsL n) 0 := fun j hj => by
  rw [roundsL_length] at hj
  have e : Dg (roundsL n) j = j := by unfold Dg; rw [roundsL_get hj, dig_ofNat (by omega)]
  omega
theorem exchAt_D (k : Nat) (l : List UInt8) (h : k + 1 < l.length) (j : Nat) : (exchAt k l).getD j 0 = if j = k then l.getD (k + 1) 0 else if j = k + 1 then l.getD k 0 else l.getD j 0 := by
  rw [← exchAt_set k l h]
  by_cases h1 : j = k
  · subst h1
    rw [if_pos rfl]
    simp [List.getD_eq_getElem?_getD, show j < l.length by omega]
  · rw [if_neg h1]
    by_cases h2 : j = k + 1
    · subst h2
      rw [if_pos rfl]
      simp [List.getD_eq_getElem?_getD, h]
    · rw [if_neg h2]
      simp [List.getD_eq_getElem?_getD, show ¬ k + 1 = j by omega, show ¬ k = j by omega]
theorem adj_exch {l : List UInt8} {k : Nat} (h : Adj l k) (hk : k + 1 < l.length) : Adj (exchAt k l) (k + 2) := by
  intro j hj
  rw [(exchAt_perm k l).length_eq] at hj
  have e := exchAt_D k l hk j
  have a := h k (by omega)
  have b := h (k + 1) hk
  have c := h j hj
  unfold Dg at *
  rw [e]
  by_cases h1 : j = k
  · subst h1; rw [if_pos rfl]; omega
  · rw [if_neg h1]
    by_cases h2 : j = k + 1
    · subst h2; rw [if_pos rfl]; omega
    · rw [if_neg h2]; omega
theorem adj_fold (S : Int → Bool) : ∀ (k p : Nat) (l : List UInt8), Adj l p → p + k < l.length → ∃ q, Adj ((swF S k ((p : Int) + 1)).foldl exch l) q
  | 0, p, l, h, _ => ⟨p, by simpa [swF] using h⟩
  | 1, p, l, h, hl => by
    rw [swF]
    split
    · exact ⟨p, by simpa using h⟩
    · refine ⟨p + 2, ?_⟩
      simp only [List.foldl_cons, List.foldl_nil, exch]
      rw [show ((p : Int) + 1 - 1).toNat = p by omega]
      exact adj_exch h (by omega)
  | k + 2, p, l, h, hl => by
    rw [swF]
    split
    · have := adj_fold S (k + 1) (p + 1) l (h.mono (by omega)) (by omega)
      rwa [show ((p + 1 : Nat) : Int) + 1 = (p : Int) + 1 + 1 by omega] at this
    · simp only [List.foldl_cons, exch]
      rw [show ((p : Int) + 1 - 1).toNat = p by omega]
      have := adj_fold S k (p + 2) (exchAt p l) (adj_exch h (by omega)) (by rw [(exchAt_perm p l).length_eq]; omega)
      rwa [show ((p + 2 : Nat) : Int) + 1 = (p : Int) + 1 + 2 by omega] at this
theorem adj_cr {n : Nat} (s : ByteArray) (h3 : 3 ≤ n) (h8 : n ≤ 8) : ∃ q, Adj (bs (crS (n : Int) s)) q := by
  unfold crS; rw [bs_mkS, Int.toNat_natCast]
  unfold crL swI
  have := adj_fold (stayB s) ((n : Int) - 1).toNat 0 (roundsL n) (adj_rounds h8) (by rw [roundsL_length]; omega)
  simpa using this
theorem bpl_adj {r c : List UInt8} {q B : Nat} (hr : IsRow r) (hc : IsRow c) (hl : r.length = c.length) (ha : Adj c q) (h1 : 1 ≤ B) (h2 : B ≤ r.length) :
    bpl (timesL r c) B ≤ bpl r B + 1 ∧ bpl r B ≤ bpl (timesL r c) B + 1 := by
  have hx := isRow_times hr hc hl
  have hlt := bpl_lt hx h1 (by rw [timesL_length]; omega)
  have hg := bpl_get hx h1 (by rw [timesL_length]; omega)
  obtain ⟨i, hi⟩ : ∃ i, i = (timesL r c).findIdx (fun c => dig c + 1 == B) := ⟨_, rfl⟩
  simp only [← hi] at hg
  have hbx : bpl (timesL r c) B = i + 1 := by unfold bpl; rw [← hi]
  rw [← hi, timesL_length] at hlt
  have hci : c.getD i 0 = c[i] := by simp [List.getD_eq_getElem?_getD, List.getElem?_eq_getElem hlt]
  have hd := hc.dig_lt (List.getElem_mem hlt)
  have e1 : (timesL r c)[i]'(by rw [timesL_length]; exact hlt) = r[dig c[i]]'(by omega) := by
    simp only [timesL, List.getElem_map, List.getD_eq_getElem?_getD]
    rw [List.getElem?_eq_getElem (by omega)]; rfl
  have hb : bpl r B = dig c[i] + 1 := by
    have := bpl_of hr (k := dig c[i]) (by omega)
    rw [← hg, e1]; exact this
  have := ha i hlt
  unfold Dg at this
  rw [hci] at this
  rw [hbx, hb]; omega
theorem path_get (st : Int) (ss : List ByteArray) (B i : Nat) (hi : i ≤ ss.length) : (pathL st ss B).getD i 0 = bpl (bs (rowAt (rnd st) ss i)) B := by
  unfold pathL plS rowsTo
  rw [List.getD_eq_getElem?_getD, List.getElem?_map, List.getElem?_map, List.getElem?_range (by omega)]; rfl
theorem path_adj {nm : ByteArray} {st : Int} {ss : List ByteArray} {B : Nat} (hm : methB nm st ss = true) (h1 : 1 ≤ B) (h2 : (B : Int) ≤ st) (i : Nat) (hi : i < ss.length) :
    (pathL st ss B).getD (i + 1) 0 ≤ (pathL st ss B).getD i 0 + 1 ∧ (pathL st ss B).getD i 0 ≤ (pathL st ss B).getD (i + 1) 0 + 1 ∧ 1 ≤ (pathL st ss B).getD i 0 ∧ (pathL st ss B).getD i 0 ≤ 8 ∧ (pathL st ss B).getD (i + 1) 0 ≤ 8 := by
  obtain ⟨_, h40, h3, h8, hch⟩ := meth_ok hm
  obtain ⟨m, rfl⟩ : ∃ m : Nat, st = (m : Int) := ⟨st.toNat, by omega⟩
  obtain ⟨hrow, hrs⟩ := rnd_ok (m := m) (by omega) (by omega)
  rw [path_get _ _ _ _ (by omega), path_get _ _ _ _ (by omega), rowAt_succ _ hi]
  have hok := rowAt_ok hrow (cs := ss) (fun c hc => by rw [hrs]; exact hch c hc) i (by omega)
  have hc := hch _ (List.getElem_mem hi)
  have hok2 := apS_ok (r := rowAt (rnd (m : Int)) ss i) (c := ss[i]) hok.1 (by rw [hok.2, hrs]; exact hc)
  have hz : (rowAt (rnd (m : Int)) ss i).size = m := hok.2.trans hrs
  obtain ⟨q, hq⟩ := adj_cr (n := m) ss[i] (by omega) (by omega)
  have ha := bpl_adj (B := B) hok.1 (crS_row hc) (by rw [size_bs, size_bs, crS_size, hz]; omega) hq h1 (by rw [size_bs, hz]; omega)
  have hb := bpl_le hok.1 h1 (by rw [size_bs, hz]; omega)
  have hb2 := bpl_le hok2.1 h1 (by rw [size_bs, hok2.2, hz]; omega)
  have e : bs (apS (rowAt (rnd (m : Int)) ss i) ss[i]) = timesL (bs (rowAt (rnd (m : Int)) ss i)) (bs (crS (m : Int) ss[i])) := by unfold apS; rw [bs_mkS, hz]
  rw [size_bs, hz] at hb
  rw [size_bs, hok2.2, hz] at hb2
  rw [e] at hb2 ⊢
  omega
/-- the text of a path -/
def wch (a b : Nat) : UInt8 := if a < b then 47 else if b < a then 92 else 61
def wkL (p : List Nat) (k : Nat) : List UInt8 := (List.range k).map fun i => wch (p.getD i 0) (p.getD (i + 1) 0)
theorem wkL_succ (p : List Nat) (k : Nat) : wkL p (k + 1) = wkL p k ++ [wch (p.getD k 0) (p.getD (k + 1) 0)] := by simp [wkL, List.range_succ]
theorem natI_getD (p : List Nat) {i : Nat} (h : i < p.length) : (natI p).getD i 0 = ((p.getD i 0 : Nat) : Int) := by
  unfold natI
  rw [List.getD_eq_getElem?_getD, List.getD_eq_getElem?_getD, List.getElem?_map, List.getElem?_eq_getElem h]; rfl
end Go.Proofs.Ytbmabfgnmafooaa
