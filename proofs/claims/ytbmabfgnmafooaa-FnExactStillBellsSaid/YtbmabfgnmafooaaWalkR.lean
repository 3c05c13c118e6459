/- The walks of the places that stay in a change and of its swaps. -/
import Derived.Test.YtbmabfgnmafooaaWalkH
import Derived.Test.YtbmabfgnmafooaaKit4
namespace Go.Proofs.Ytbmabfgnmafooaa
open Go.RowKit
set_option linter.unusedVariables false

theorem getD_get {α : Type} (l : List α) (i : Nat) (d : α) (h : i < l.length) : l.getD i d = l[i] := by simp [List.getElem?_eq_getElem h]
noncomputable def plsI (s : ByteArray) : List Int := if bs s = [45] then [] else digsI (bs s)
def Plc (n : Int) (zs : List Int) : Prop := (∀ z ∈ zs, 1 ≤ z ∧ z ≤ n) ∧ zs.Pairwise (· < ·)
theorem pairwise_of_next {l : List UInt8} (h : ∀ i, i + 1 < l.length → ch l i < ch l (i + 1)) : (digsI l).Pairwise (· < ·) := by
  rw [List.pairwise_iff_getElem]
  intro i j hi hj hij
  rw [digsI_length] at hi hj
  have mono : ∀ d i, i + 1 + d < l.length → ch l i < ch l (i + 1 + d) := fun d => by
    induction d with
    | zero => intro i h1; exact h i h1
    | succ d ih => intro i h1; have := ih i (by omega); have := h (i + 1 + d) (by omega); rw [show i + 1 + (d + 1) = i + 1 + d + 1 by omega]; omega
  have h1 := mono (j - i - 1) i (by omega)
  rw [show i + 1 + (j - i - 1) = j by omega] at h1
  have e1 := digsI_get l i hi
  have e2 := digsI_get l j hj
  rw [getD_get _ _ _ (by rw [digsI_length]; exact hi)] at e1
  rw [getD_get _ _ _ (by rw [digsI_length]; exact hj)] at e2
  omega
theorem plc_of {n : Int} {s : ByteArray} (h : chB n s = true) : Plc n (plsI s) := by
  have h := of_cb h
  unfold plsI
  rcases h.2.2 with ⟨hd, _⟩ | hp
  · rw [if_pos hd]; exact ⟨fun z hz => (List.not_mem_nil hz).elim, List.Pairwise.nil⟩
  · have hne : bs s ≠ [45] := by
      intro e
      have := hp.2.2.1 0 (by rw [e]; simp)
      rw [e] at this; simp [ch] at this
    rw [if_neg hne]
    refine ⟨fun z hz => ?_, pairwise_of_next fun i hi => (hp.2.2.2.2.1 i hi).1⟩
    obtain ⟨c, hc, rfl⟩ := List.mem_map.1 hz
    obtain ⟨i, hi, rfl⟩ := List.getElem_of_mem hc
    have := hp.2.2.1 i hi
    unfold ch at this
    rw [getD_get _ _ _ hi] at this
    have := h.1
    omega
theorem ch_stage {n : Int} {s : ByteArray} (h : chB n s = true) : 3 ≤ n ∧ n ≤ 8 := by
  have h := of_cb h
  have := h.1; have := h.2.1; omega
theorem ch_size {n : Int} {s : ByteArray} (h : chB n s = true) : 1 ≤ s.size ∧ s.size ≤ 6 := by
  have h1 := isCh_len (of_cb h)
  have := (of_cb h).2.1
  rw [size_bs] at h1; omega
theorem allDig_of {n : Int} {s : ByteArray} (h : chB n s = true) (hd : bs s ≠ [45]) : allDig (bs s) := by
  have h := of_cb h
  rcases h.2.2 with ⟨hd2, _⟩ | hp
  · exact absurd hd2 hd
  · intro i hi; have := hp.2.2.1 i hi; have := h.2.1; omega
theorem plsI_len (s : ByteArray) : (plsI s).length ≤ s.size := by
  unfold plsI
  split
  · simp
  · rw [digsI_length, size_bs]; omega
noncomputable def stayB (s : ByteArray) (p : Int) : Bool := decide (p ∈ plsI s)
theorem stay_mem {s : ByteArray} {p : Int} (hp : 1 ≤ p) : (p ∈ digsI (bs s)) ↔ p ∈ plsI s := by
  unfold plsI
  split
  · rename_i h
    rw [h]
    simp [digsI]; omega
  · exact Iff.rfl
theorem filt_step {zs : List Int} (h : zs.Pairwise (· < ·)) (p : Int) : zs.filter (fun z => decide (z < p + 1)) = zs.filter (fun z => decide (z < p)) ++ (if decide (p ∈ zs) = true then [p] else []) := by
  induction zs with
  | nil => simp
  | cons z t ih =>
    rw [List.pairwise_cons] at h
    have ih := ih h.2
    by_cases h1 : z < p
    · have h2 : z < p + 1 := by omega
      have h3 : (p ∈ z :: t) ↔ p ∈ t := by
        rw [List.mem_cons]
        constructor
        · rintro (e | e)
          · omega
          · exact e
        · exact .inr
      rw [List.filter_cons_of_pos (by simpa using h2), List.filter_cons_of_pos (by simpa using h1), ih]
      simp only [List.cons_append, h3]
    · have e0 : ∀ q : Int, q ≤ z + 1 → t.filter (fun z => decide (z < q)) = [] := fun q hq => by
        rw [List.filter_eq_nil_iff]
        intro a ha
        have := h.1 a ha
        simp; omega
      rw [List.filter_cons_of_neg (p := fun z => decide (z < p)) (by simpa using h1), e0 p (by omega)]
      by_cases h2 : z = p
      · subst h2
        rw [List.filter_cons_of_pos (by simp; omega), e0 (z + 1) (by omega)]
        simp
      · have h3 : ¬ p ∈ z :: t := by
          rw [List.mem_cons]
          rintro (e | e)
          · omega
          · have := h.1 p e; omega
        rw [List.filter_cons_of_neg (by simp; omega), e0 (p + 1) (by omega)]
        simp [h3]
theorem filt_start {n : Int} {zs : List Int} (h : Plc n zs) : zs.filter (fun z => decide (z < 1)) = [] := by
  rw [List.filter_eq_nil_iff]
  intro a ha
  have := h.1 a ha
  simp; omega
theorem filt_end {n p : Int} {zs : List Int} (h : Plc n zs) (hp : n < p) : zs.filter (fun z => decide (z < p)) = zs := by
  rw [List.filter_eq_self]
  intro a ha
  have := h.1 a ha
  simp; omega
theorem filt_len (zs : List Int) (p : Int) : (zs.filter (fun z => decide (z < p))).length ≤ zs.length := List.length_filter_le _ _

/-- the swaps of k places from p on, where S tells which stay -/
def swF (S : Int → Bool) : Nat → Int → List Int
  | 0, _ => []
  | 1, p => if S p = true then [] else [p]
  | k + 2, p => if S p = true then swF S (k + 1) (p + 1) else p :: swF S k (p + 2)
theorem swF_stay {S : Int → Bool} {n p : Int} (hp : p < n) (h : S p = true) : swF S (n - p).toNat p = swF S (n - (p + 1)).toNat (p + 1) := by
  obtain ⟨k, hk⟩ : ∃ k, (n - p).toNat = k + 1 := ⟨(n - p).toNat - 1, by omega⟩
  have h2 : (n - (p + 1)).toNat = k := by omega
  rw [hk, h2]
  cases k with
  | zero => simp [swF, h]
  | succ k => rw [swF, if_pos h]
theorem swF_swap {S : Int → Bool} {n p : Int} (hp : p < n) (h : S p = false) : swF S (n - p).toNat p = p :: swF S (n - (p + 2)).toNat (p + 2) := by
  obtain ⟨k, hk⟩ : ∃ k, (n - p).toNat = k + 1 := ⟨(n - p).toNat - 1, by omega⟩
  have h2 : (n - (p + 2)).toNat = k - 1 := by omega
  rw [hk, h2]
  cases k with
  | zero => simp [swF, h]
  | succ k => rw [swF, if_neg (by rw [h]; simp)]; rfl
theorem swF_end {S : Int → Bool} {n p : Int} (hp : n ≤ p) : swF S (n - p).toNat p = [] := by
  rw [show (n - p).toNat = 0 by omega]; rfl
theorem swF_length (S : Int → Bool) : ∀ (k : Nat) (p : Int), (swF S k p).length ≤ k
  | 0, _ => by simp [swF]
  | 1, p => by
    rw [swF]; split <;> simp
  | k + 2, p => by
    have h1 := swF_length S (k + 1) (p + 1)
    have h2 := swF_length S k (p + 2)
    rw [swF]; split
    · omega
    · rw [List.length_cons]; omega
noncomputable def swI (n : Int) (s : ByteArray) : List Int := swF (stayB s) (n - 1).toNat 1

set_option maxRecDepth 100000 in
set_option maxHeartbeats 1000000 in
theorem l2Stays_any (s : ByteArray) (p : Int) (w : World) (hm : s.size ≤ 2097152) (hp : 1 ≤ p) : Calls Try.prog 107 #[.string s, .int .i64 p] w fun e w' => e = .returned (.bool (stayB s p)) ∧ w = w' := by
  have HE := Lib.hid (stay_mem (s := s) hp)
  go_enter Try.func107, Try.ntmps107
  go_wp2
  go_loop [5] (fun i => ∃ k : Nat, k ≤ s.size ∧ i = .int .i64 k ∧ Hid (∀ j, j < k → (ch (bs s) j : Int) - 48 ≠ p)) (fun i => s.size - (intOf i).toNat)
  case atStart => exact ⟨0, by omega, rfl, fun j hj => by omega⟩
  case round =>
    obtain ⟨k, hk, rfl, HK⟩ := hrel
    by_cases hlt : k < s.size
    · have i1 : (k : Int) < (s.size : Int) := by omega
      have b1 : 0 ≤ (s[k].toNat : Int) := by omega
      have b2 : (s[k].toNat : Int) ≤ 255 := by have := UInt8.toNat_lt s[k]; omega
      by_cases he : (s[k].toNat : Int) - 48 = p
      · have hee : ((s[k].toNat : Int) - 48 == p) = true := by simp [he]
        have E : Hid (stayB s p = true) := by
          unfold Hid stayB
          rw [decide_eq_true_eq, ← HE.out, digsI, List.mem_map]
          exact ⟨s[k], get_mem s k hlt, he⟩
        clear he
        go_wp2
        go_ret
        exact ⟨ret_b E.out, rfl⟩
      · have hee : ((s[k].toNat : Int) - 48 == p) = false := by simp [he]
        have HK1 : Hid (∀ j, j < k + 1 → (ch (bs s) j : Int) - 48 ≠ p) := by
          intro j hj
          by_cases e : j = k
          · subst e; rw [ch_bs s j hlt]; exact he
          · exact HK.out j (by omega)
        clear he
        go_wp2
        go_round
        case rel => exact ⟨k + 1, by omega, by go_num, HK1.out⟩
        case measure => simp [intOf]; omega
    · have E : Hid (stayB s p = false) := by
        unfold Hid stayB
        rw [decide_eq_false_iff_not, ← HE.out, digsI, List.mem_map]
        rintro ⟨c, hc, rfl⟩
        obtain ⟨i, hi, rfl⟩ := List.getElem_of_mem hc
        have hi2 := hi
        rw [size_bs] at hi2
        have := HK.out i (by omega)
        unfold ch at this
        rw [getD_get _ _ _ hi] at this
        exact this rfl
      go_wp2
      go_ret
      exact ⟨ret_b E.out, rfl⟩
set_option maxRecDepth 100000 in
set_option maxHeartbeats 1000000 in
theorem index_any (A : Option Addr) (n c : Nat) (zs : List Int) (v : Int) (w : World) (hn : n ≤ 1048576) (hr : Rd w A n (intsV zs)) :
    Calls Try.prog 103 #[.slice A n c, .int .i64 v] w fun e w' => ∃ r : Int, e = .returned (.int .i64 r) ∧ w = w' ∧ decide ((0 : Int) ≤ r) = decide (v ∈ zs) := by
  have Hr := Lib.hid hr
  have Hl := Lib.hid hr.ilen
  clear hr
  go_enter Try.func103, Try.ntmps103
  go_wp2
  go_loop [8] (fun i => ∃ k : Nat, k ≤ n ∧ i = .int .i64 k ∧ Hid (∀ j, j < k → zs.getD j 0 ≠ v)) (fun i => n - (intOf i).toNat)
  case atStart => exact ⟨0, by omega, rfl, fun j hj => by omega⟩
  case round =>
    obtain ⟨k, hk, rfl, HK⟩ := hrel
    by_cases hlt : k < n
    · obtain ⟨b, off, rfl, hbs, hcs⟩ := Hr.out.intD hlt
      have hc := hcs k hlt
      obtain ⟨z, hz⟩ : ∃ z, z = zs.getD k 0 := ⟨_, rfl⟩
      rw [← hz] at hc
      have Hz := Lib.hid hz
      clear hcs hz
      have i1 : (k : Int) < (n : Int) := by omega
      by_cases he : v = z
      · have hee : (v == z) = true := by simp [he]
        have E : Hid (v ∈ zs) := by
          unfold Hid
          have := Hl.out
          rw [he, Hz.out, getD_get _ _ _ (by omega)]
          exact List.getElem_mem _
        clear he
        go_wp2
        go_ret
        exact ⟨k, rfl, rfl, by have h := E.out; simp [h]⟩
      · have hee : (v == z) = false := by simp [he]
        have HK1 : Hid (∀ j, j < k + 1 → zs.getD j 0 ≠ v) := by
          intro j hj
          by_cases e : j = k
          · subst e; rw [← Hz.out]; exact fun h => he h.symm
          · exact HK.out j (by omega)
        clear he
        go_wp2
        go_round
        case rel => exact ⟨k + 1, by omega, by go_num, HK1.out⟩
        case measure => simp [intOf]; omega
    · have E : Hid (¬ v ∈ zs) := by
        intro h
        obtain ⟨i, hi, rfl⟩ := List.getElem_of_mem h
        have := Hl.out
        have := HK.out i (by omega)
        rw [getD_get _ _ _ hi] at this
        exact this rfl
      go_wp2
      go_ret
      exact ⟨-1, rfl, rfl, by have h := E.out; simp [h]⟩
set_option maxRecDepth 100000 in
theorem contains_any (A : Option Addr) (n c : Nat) (zs : List Int) (v : Int) (w : World) (hn : n ≤ 1048576) (hr : Rd w A n (intsV zs)) :
    Calls Try.prog 97 #[.slice A n c, .int .i64 v] w fun e w' => e = .returned (.bool (decide (v ∈ zs))) ∧ w = w' := by
  have Hr := Lib.hid hr
  clear hr
  obtain ⟨q, hq⟩ : ∃ q : Bool, q = decide (v ∈ zs) := ⟨_, rfl⟩
  have HI := Lib.hid (index_any A n c zs v w hn Hr.out)
  have Hq := Lib.hid hq
  rw [← hq]
  clear hq
  go_enter Try.func97, Try.ntmps97
  go_wp2_with fail
  refine (HI.out).mono ?_
  rintro e w' ⟨r, rfl, rfl, hrr⟩
  rw [← Hq.out] at hrr
  have HR := Lib.hid hrr
  cases q with
  | true =>
    have i1 : (0 : Int) ≤ r := by simpa using hrr
    clear hrr
    go_wp2
    go_ret
    exact ⟨by first | rfl | (exact ret_b (by simpa using i1)) | (exact ret_b HR.out.symm), rfl⟩
  | false =>
    have i1 : r < (0 : Int) := by simpa using hrr
    clear hrr
    go_wp2
    go_ret
    exact ⟨by first | rfl | (exact ret_b (by simpa using i1)) | (exact ret_b HR.out.symm), rfl⟩
set_option maxRecDepth 100000 in
set_option maxHeartbeats 1000000 in
theorem placesOf_any (n : Int) (s : ByteArray) (w : World) (hc : chB n s = true) : Calls Try.prog 109 #[.string s] w (RetS 3 (intsV (plsI s)) w) := by
  have hm : s.size ≤ 2097152 := by have := (ch_size hc).2; omega
  by_cases hdash : s.toList = [45]
  · have hd1 : (s.toList == [45]) = true := by rw [hdash]; rfl
    have E : Hid (plsI s = []) := by unfold Hid plsI; rw [if_pos (eq_dash hdash)]
    clear hdash hc
    go_enter Try.func109, Try.ntmps109
    go_wp2
    go_ret
    refine ⟨_, _, _, rfl, ?_, below_alloc _ _⟩
    rw [E.out]; exact own_empty _ _
  · have hd1 : (s.toList == [45]) = false := by simp [hdash]
    have hnd : bs s ≠ [45] := fun e => hdash (by rw [ByteArray.toList_eq]; exact e)
    have E : Hid (plsI s = digsI (bs s)) := by unfold Hid plsI; rw [if_neg hnd]
    have HP := Lib.hid (places_yes s w hm (allDig_of hc hnd))
    clear hdash hnd hc
    go_enter Try.func109, Try.ntmps109
    go_wp2_with fail
    refine (HP.out).mono ?_
    rintro e w1 ⟨A, m, c, rfl, ho, hb1⟩
    go_wp2
    go_ret
    refine ⟨_, _, _, rfl, ?_, hb1⟩
    rw [E.out]; exact ho
set_option maxRecDepth 100000 in
set_option maxHeartbeats 1000000 in
theorem swapsOf_any (n : Int) (s : ByteArray) (w : World) (hc : chB n s = true) : Calls Try.prog 108 #[.int .i64 n, .string s] w (RetS 3 (intsV (swI n s)) w) := by
  have hm : s.size ≤ 2097152 := by have := (ch_size hc).2; omega
  have hl : (plsI s).length ≤ 6 := by have := (ch_size hc).2; have := plsI_len s; omega
  obtain ⟨h3, h8⟩ := ch_stage hc
  have Hc := Lib.hid hc
  have HL := Lib.hid hl
  clear hc hl
  have HP := Lib.hid (placesOf_any n s w Hc.out)
  go_enter Try.func108, Try.ntmps108
  go_wp2_with fail
  refine (HP.out).mono ?_
  rintro e w1 ⟨A1, n1, c1, rfl, ho1, hb1⟩
  have hn1 : n1 ≤ 6 := by have := ho1.rd.ilen; have := HL.out; omega
  have HO1 := Lib.hid ho1
  have HB1 := Lib.hid hb1
  have hs1 := hb1.size
  clear ho1 hb1
  go_wp2
  go_loopw [6, 7] (fun l i wr => ∃ (p : Int) (A2 : Option Addr) (n2 c2 : Nat) (out : List Int), i = .int .i64 p ∧ l = .slice A2 n2 c2 ∧ 1 ≤ p ∧ p ≤ n + 1 ∧ (n2 : Int) < p ∧ Hid (out ++ swF (stayB s) (n - p).toNat p = swI n s) ∧ Hid (Own wr 3 w1.heap.size wr.heap.size A2 n2 c2 (intsV out)) ∧ Hid (Below w1.heap.size w1 wr)) (fun _ i _ => (n + 1 - intOf i).toNat)
  case atStart => exact ⟨1, _, 0, 0, [], rfl, rfl, by omega, by omega, by omega, rfl, own_empty w1 3, below_alloc _ _⟩
  case round =>
    obtain ⟨p, A2, n2, c2, out, rfl, rfl, hp1, hp2, hn2, HQ, HO, HB⟩ := hrel
    by_cases hlt : p < n
    · have HC := Lib.hid (contains_any A1 n1 c1 (plsI s) p wr (by omega) (HO1.out.rd.below HB.out))
      cases hs : stayB s p with
      | false =>
        have HQ2 : Hid ((out ++ [p]) ++ swF (stayB s) (n - (p + 2)).toNat (p + 2) = swI n s) := by
          unfold Hid; rw [← HQ.out, swF_swap hlt hs, List.append_assoc]; rfl
        clear HQ
        have hs0 : decide (p ∈ plsI s) = false := hs
        go_wp2_with fail
        refine (HC.out).mono ?_
        rintro e w' ⟨rfl, rfl⟩
        go_wp2_with (at_builtin; refine wpList_append1 wr rfl (.tmp 20) (.tmp 22) 42 rfl 3 (.int .i64 0) 8 Try.underlying42 info_int rfl w1.heap.size A2 n2 c2 _ (.int .i64 p) rfl rfl rfl HO.out (by omega) (by omega) HB.out.size ?_; intro A3 c3 w2 ho2 hw2 hsz2 hat2)
        have HO2 : Hid (Own w2 3 w1.heap.size w2.heap.size A3 (n2 + 1) c3 (intsV (out ++ [p]))) := by
          refine ho2.congr ?_
          rw [intsV_app out, intsV_one]
        have HB2 : Hid (Below w1.heap.size w1 w2) := HB.out.trans (hw2.below (Nat.le_refl _) HB.out.size)
        go_roundw
        case rel => exact ⟨p + 2, A3, n2 + 1, c3, out ++ [p], val_i (by omega), rfl, by omega, by omega, by omega, HQ2.out, HO2.out, HB2.out⟩
        case measure => (simp [intOf] <;> omega)
      | true =>
        have HQ2 : Hid (out ++ swF (stayB s) (n - (p + 1)).toNat (p + 1) = swI n s) := by
          unfold Hid; rw [← HQ.out, swF_stay hlt hs]
        clear HQ
        have hs0 : decide (p ∈ plsI s) = true := hs
        go_wp2_with fail
        refine (HC.out).mono ?_
        rintro e w' ⟨rfl, rfl⟩
        go_wp2
        go_roundw
        case rel => exact ⟨p + 1, A2, n2, c2, out, by go_num, rfl, by omega, by omega, by omega, HQ2.out, HO.out, HB.out⟩
        case measure => (simp [intOf] <;> omega)
    · have hge : n ≤ p := by omega
      have E : Hid (Own wr 3 w1.heap.size wr.heap.size A2 n2 c2 (intsV (swI n s))) := by
        refine HO.out.congr ?_
        rw [← HQ.out, swF_end hge, List.append_nil]
      clear hlt
      go_wp2
      go_ret
      exact ⟨_, _, _, rfl, E.out.mono hs1 (Nat.le_refl _), HB1.out.trans (HB.out.mono hs1)⟩
end Go.Proofs.Ytbmabfgnmafooaa
