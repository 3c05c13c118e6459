/- The least of some texts; equal neighbours left out: in plain lists, and the walks. -/
import Derived.Test.YtajmjfekddgelaaWalkGr
import Derived.Test.YtajmjfekddgelaaWalkGs
import Derived.BigQuiet
namespace Go.Proofs.Ytajmjfekddgelaa
open Go.RowKit Go.Maps Go.Sort
set_option linter.unusedVariables false

/-- equal neighbours left out, the first k looked at -/
def cmT (ss : List ByteArray) : Nat → List ByteArray
  | 0 => []
  | k + 1 => if k = 0 ∨ getS ss k ≠ getS ss (k - 1) then cmT ss k ++ [getS ss k] else cmT ss k
def cmS (ss : List ByteArray) : List ByteArray := cmT ss ss.length
theorem cmT_len (ss : List ByteArray) : ∀ k, (cmT ss k).length ≤ k
  | 0 => by simp [cmT]
  | k + 1 => by
    have := cmT_len ss k
    simp only [cmT]
    split
    · simp; omega
    · omega
theorem cmT_pos (ss : List ByteArray) : ∀ k, 0 < k → 0 < (cmT ss k).length
  | 0, h => by omega
  | k + 1, _ => by
    simp only [cmT]
    split
    · simp
    · rename_i h
      have : k ≠ 0 := fun e => h (.inl e)
      exact cmT_pos ss k (by omega)
/-- its last is the last that was looked at -/
theorem cmT_last (ss : List ByteArray) : ∀ k, getS (cmT ss (k + 1)) ((cmT ss (k + 1)).length - 1) = getS ss k
  | 0 => by simp [cmT, getS]
  | j + 1 => by
    by_cases h : getS ss (j + 1) = getS ss j
    · have e : cmT ss (j + 1 + 1) = cmT ss (j + 1) := by
        simp only [cmT]
        rw [if_neg]
        rintro (h1 | h1)
        · omega
        · exact h1 h
      rw [e, cmT_last ss j, h]
    · have e : cmT ss (j + 1 + 1) = cmT ss (j + 1) ++ [getS ss (j + 1)] := by
        simp only [cmT]
        rw [if_pos (.inr h)]
      have key : ∀ (L : List ByteArray) (x : ByteArray), getS (L ++ [x]) ((L ++ [x]).length - 1) = x := fun L x => by simp [getS]
      rw [e, key]
theorem cmT_comp (ss : List ByteArray) : ∀ k, k ≤ ss.length → (cmT ss k).map bs = Lib.compactUpTo (ss.map bs).toArray k
  | 0, _ => by simp [cmT, Lib.compactUpTo]
  | k + 1, hk => by
    have ih := cmT_comp ss k (by omega)
    have hg : ∀ j, j < ss.length → (ss.map bs).toArray[j]! = bs (getS ss j) := fun j hj => by
      have : j < (ss.map bs).toArray.size := by simpa using hj
      rw [getElem!_pos _ j this]
      simp [getS, List.getElem?_eq_getElem hj]
    rw [Lib.compactUpTo_succ, ← ih, hg k (by omega)]
    by_cases h : k = 0 ∨ getS ss k ≠ getS ss (k - 1)
    · have hkp : Lib.keeps (ss.map bs).toArray k = true := by
        unfold Lib.keeps
        refine decide_eq_true ?_
        rcases h with h | h
        · exact .inl h
        · right
          rw [hg k (by omega), hg (k - 1) (by omega)]
          exact fun e => h (bs_inj e)
      simp only [cmT]
      rw [if_pos h, if_pos hkp, List.map_append]; rfl
    · have hkp : ¬ Lib.keeps (ss.map bs).toArray k = true := by
        unfold Lib.keeps
        rw [decide_eq_true_iff]
        rintro (h1 | h1)
        · exact h (.inl h1)
        · rw [hg k (by omega), hg (k - 1) (by omega)] at h1
          exact h (.inr fun e => h1 (by rw [e]))
      simp only [cmT]
      rw [if_neg h, if_neg hkp, List.append_nil]
theorem cmS_comp (ss : List ByteArray) : (cmS ss).map bs = Lib.compact (ss.map bs) := by
  unfold cmS Lib.compact
  rw [cmT_comp ss _ (Nat.le_refl _), List.length_map]
def lsI (gs ss : List ByteArray) : List ByteArray := ss.map fun r => Lib.minOfS (gs.map (timS r))
theorem lsI_take (gs ss : List ByteArray) {k : Nat} (h : k < ss.length) : lsI gs (ss.take (k + 1)) = lsI gs (ss.take k) ++ [Lib.minOfS (gs.map (timS (getS ss k)))] := by
  have e : getS ss k = ss[k] := by simp [getS, List.getElem?_eq_getElem h]
  unfold lsI
  rw [List.take_succ_eq_append_getElem h, List.map_append, e]; rfl
theorem lsI_len (gs ss : List ByteArray) : (lsI gs ss).length = ss.length := by unfold lsI; rw [List.length_map]
set_option maxRecDepth 100000 in
set_option maxHeartbeats 1000000 in
theorem l6Least_any (A : Option Addr) (n c : Nat) (ss : List ByteArray) (w : World) (h0 : 0 < n) (hr : Rd w A n (strsV ss)) :
    Calls Try.prog 45 #[.slice A n c] w fun e w' => e = .returned (.string (Lib.minOfS ss)) ∧ w = w' := by
  have hn := hr.lenB
  have hl := hr.slen
  obtain ⟨b, off, rfl, _, hcs⟩ := hr.strD h0
  have HC := Lib.hid hcs
  have hc0 := hcs 0 h0
  rw [Nat.add_zero] at hc0
  have Hl := Lib.hid hl
  have H1 : Hid (Lib.minOfS (ss.take 1) = getS ss 0) := Lib.minOfS_one ss
  have HSt : Hid (∀ k, 0 < k → k < n → Lib.minOfS (ss.take (k + 1)) = Lib.minS (Lib.minOfS (ss.take k)) (getS ss k)) := fun k h1 h2 => Lib.minOfS_step ss k h1 (by omega)
  have i0 : (0 : Int) < (n : Int) := by omega
  obtain ⟨x0, hx0⟩ : ∃ x, x = getS ss 0 := ⟨_, rfl⟩
  rw [← hx0] at hc0 H1
  have HX0 := Lib.hid hx0
  clear hr hcs hl hx0
  go_enter Try.func45, Try.ntmps45
  go_wp2
  go_loop [3, 11] (fun m i => ∃ (k : Nat) (y : ByteArray), k ≤ n ∧ i = .int .i64 k ∧ m = .string y ∧ Hid (y = Lib.minOfS (ss.take (if k = 0 then 1 else k)))) (fun _ i => n - (intOf i).toNat)
  case atStart => exact ⟨0, x0, by omega, rfl, rfl, by unfold Hid; rw [if_pos rfl]; exact H1.out.symm⟩
  case round =>
    obtain ⟨k, y, hk, rfl, rfl, HY⟩ := hrel
    by_cases hlt : k < n
    · have hc := HC.out k hlt
      have i1 : (k : Int) < (n : Int) := by omega
      have HN : Hid (Lib.minOfS (ss.take (k + 1)) = Lib.minS y (getS ss k)) := by
        unfold Hid
        by_cases hk0 : k = 0
        · subst hk0
          have h2 := HY.out
          rw [if_pos rfl, H1.out] at h2
          rw [H1.out, h2, ← HX0.out]
          unfold Lib.minS
          rw [if_pos (.inr rfl)]
        · have h2 := HY.out
          rw [if_neg hk0] at h2
          rw [HSt.out k (by omega) hlt, h2]
      have hbl := less_lt y (getS ss k)
      obtain ⟨x, hx⟩ : ∃ x, x = getS ss k := ⟨_, rfl⟩
      rw [← hx] at hc hbl HN
      clear hx HY
      by_cases hxy : bs x < bs y
      · have hbl' : Op.bytesLess x.toList y.toList = true := by rw [hbl]; exact decide_eq_true hxy
        have HN2 : Hid (x = Lib.minOfS (ss.take (if k + 1 = 0 then 1 else k + 1))) := by
          unfold Hid
          rw [if_neg (by omega), HN.out]
          unfold Lib.minS
          rw [if_neg]
          rintro (h | h)
          · exact List.lt_irrefl _ (List.lt_trans h hxy)
          · have e2 : bs y = bs x := h
            rw [e2] at hxy
            exact List.lt_irrefl _ hxy
        clear hbl hxy HN
        go_wp2
        go_round
        case rel => exact ⟨k + 1, x, by omega, by go_num, rfl, HN2.out⟩
        case measure => (simp [intOf] <;> omega)
      · have hbl' : Op.bytesLess x.toList y.toList = false := by rw [hbl]; exact decide_eq_false hxy
        have HN2 : Hid (y = Lib.minOfS (ss.take (if k + 1 = 0 then 1 else k + 1))) := by
          unfold Hid
          rw [if_neg (by omega), HN.out]
          unfold Lib.minS
          rw [if_pos]
          exact List.le_iff_lt_or_eq.1 (List.not_lt.1 hxy)
        clear hbl hxy HN
        go_wp2
        go_round
        case rel => exact ⟨k + 1, y, by omega, by go_num, rfl, HN2.out⟩
        case measure => (simp [intOf] <;> omega)
    · have E : Hid (Lib.minOfS ss = y) := by
        have h2 := HY.out
        rw [if_neg (by omega), List.take_of_length_le (by have := Hl.out; omega)] at h2
        exact h2.symm
      go_wp2
      go_ret
      exact ⟨ret_s E.out, rfl⟩
theorem min_any (A : Option Addr) (n c : Nat) (ss : List ByteArray) (w : World) (h0 : 0 < n) (hr : Rd w A n (strsV ss)) :
    Calls Try.prog 46 #[.slice A n c] w fun e w' => e = .returned (.string (Lib.minOfS ss)) ∧ w = w' := by
  have hn := hr.lenB
  have hl := hr.slen
  obtain ⟨b, off, rfl, _, hcs⟩ := hr.strD h0
  refine (Try.slices_Min_string b off n c ss w h0 (by omega) (by omega) (fun j hj => hcs j (by omega))).mono ?_
  rintro e w' ⟨rfl, rfl⟩
  rw [List.take_of_length_le (by omega)]
  exact ⟨rfl, rfl⟩
theorem own_shrink {w : World} {base : Nat} {e : TypeId} {g n m cap : Nat} {xs : List Value} (h : w.ownsRow base e 1 (.slice (some ⟨g, 0, none⟩) n cap) n xs) (hm : m ≤ n) : w.ownsRow base e 1 (.slice (some ⟨g, 0, none⟩) m cap) m (xs.take m) := by
  have hl := h.1
  refine ⟨by rw [List.length_take]; omega, ?_⟩
  rcases h.2 with ⟨h0, _⟩ | ⟨g', cap', cur, e1, hb, hh, h1, h2, h3, h4⟩
  · cases h0
  · injection e1 with e2 e3 e4
    injection e2 with e2; injection e2 with e2
    subst e2 e4
    refine .inr ⟨g, cap, cur, rfl, hb, hh, by omega, h2, h3, ?_⟩
    rw [← h4, List.take_take, Nat.mul_one, Nat.mul_one, Nat.min_eq_left hm]
theorem compact_own (A : Option Addr) (n c lo hi : Nat) (ss : List ByteArray) (W : World) (hlo : lo ≤ W.heap.size) (hn : n ≤ 1048576) (ho : Own W 9 lo hi A n c (strsV ss)) :
    Calls Try.prog 47 #[.slice A n c] W fun e w' => e = .returned (.slice A (cmS ss).length c) ∧ Own w' 9 lo hi A (cmS ss).length c (strsV (cmS ss)) ∧ Below lo W w' := by
  have hl : ss.length = n := ho.rd.slen
  have hml : (cmS ss).length ≤ n := by have := cmT_len ss ss.length; unfold cmS; omega
  by_cases hn0 : n = 0
  · subst hn0
    have hs : ss = [] := List.eq_nil_of_length_eq_zero hl
    subst hs
    refine (Try.slices_Compact_string_empty A c W).mono ?_
    rintro e w' ⟨rfl, rfl⟩
    exact ⟨rfl, ho, Below.refl _ _⟩
  · rcases ho.1.2 with ⟨hnil, h00⟩ | ⟨g, cap, cur, e, hbase, hb, h1, h2, h3, h4⟩
    · omega
    · injection e with e1 e2 e3
      subst e1 e3
      have hll : (ss.map bs).length = n := by simp [hl]
      have h4' : cur.toList.take (ss.map bs).length = (ss.map bs).map encStr := by rw [hll, map_enc]; simpa using h4
      have hg : g < W.heap.size := (Array.getElem?_eq_some_iff.1 hb).1
      have hC := Try.slices_Compact_string g 0 c (ss.map bs) W (holds_of_block hb h4') (by omega) (by omega)
      rw [hll] at hC
      have hcl : (Lib.compact (ss.map bs)).length = (cmS ss).length := by rw [← cmS_comp, List.length_map]
      refine hC.mono ?_
      rintro e w' ⟨rfl, d, rfl⟩
      rw [hcl]
      have hpad : (Lib.compact (ss.map bs) ++ List.replicate (n - (cmS ss).length) ([] : List UInt8)).length = (ss.map bs).length := by
        rw [List.length_append, List.length_replicate, hcl, hll]; omega
      have hrow := ownsRow_sorted (n := d) (os := #[]) (ts := Lib.compact (ss.map bs) ++ List.replicate (n - (cmS ss).length) []) (ss := ss.map bs) hpad hbase hb (by rw [hll]; exact h1) h2 h3
      have hgr := grownBy_sorted (w := W) (g := g) (n := d) (os := #[]) (Lib.compact (ss.map bs) ++ List.replicate (n - (cmS ss).length) []).toArray
      have ew : ∀ x : World, grow x #[] = x := fun x => by simp [grow]
      rw [ew] at hrow hgr
      rw [hll] at hrow
      have hsh := own_shrink hrow hml
      have etk : (List.map encStr (Lib.compact (ss.map bs) ++ List.replicate (n - (cmS ss).length) [])).take (cmS ss).length = strsV (cmS ss) := by
        rw [List.map_append, List.take_left' (by rw [List.length_map, hcl]), ← cmS_comp, map_enc]
      rw [etk] at hsh
      refine ⟨rfl, ⟨hsh, fun q hq => ?_⟩, ⟨hgr.os, hgr.tape, hgr.output, hgr.size, fun q hq => hgr.block q (Nat.lt_of_lt_of_le hq hlo) (fun e => by injection e with e; omega)⟩⟩
      exact ho.2 q (by simpa [Value.ownBlock] using hq)
end Go.Proofs.Ytajmjfekddgelaa
