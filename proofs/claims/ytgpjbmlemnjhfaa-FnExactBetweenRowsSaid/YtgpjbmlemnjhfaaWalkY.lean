/- The walks of lists that read the same both ways. -/
import Derived.Test.YtgpjbmlemnjhfaaWalkS
import Derived.Test.YtgpjbmlemnjhfaaWalkO
namespace Go.Proofs.Ytgpjbmlemnjhfaa
open Go.RowKit
set_option linter.unusedVariables false

def getS (ss : List ByteArray) (i : Nat) : ByteArray := ss.getD i ByteArray.empty
def PalTo (m : Nat) (ss : List ByteArray) (k : Nat) : Prop := ∀ i, i < k → getS ss i = getS ss (m - 1 - i)
instance (m : Nat) (ss : List ByteArray) (k : Nat) : Decidable (PalTo m ss k) := by unfold PalTo; infer_instance
/-- the first m elements read the same both ways -/
def palB (m : Nat) (ss : List ByteArray) : Bool := decide (PalTo m ss m)
theorem Rd.strD {w : World} {A : Option Addr} {n : Nat} {ss : List ByteArray} (h : Rd w A n (strsV ss)) {k : Nat} (hk : k < n) :
    ∃ b off, A = some ⟨b, off, none⟩ ∧ b < w.heap.size ∧ ∀ j, j < n → w.cell? ⟨b, off + j, none⟩ = some (.string (getS ss j)) := by
  obtain ⟨b, off, rfl, hb, _⟩ := h.str hk
  refine ⟨b, off, rfl, hb, fun j hj => ?_⟩
  obtain ⟨b', off', e, _, hc⟩ := h.str hj
  injection e with e; injection e with e1 e2; subst e1 e2
  have := h.slen
  rw [hc]; simp [getS, List.getElem?_eq_getElem (show j < ss.length by omega)]
theorem palB_take {m : Nat} {ss : List ByteArray} (h : m ≤ ss.length) : palB m (ss.take m) = palB m ss := by
  have e : ∀ i, i < m → getS (ss.take m) i = getS ss i := fun i hi => by
    simp [getS, hi]
  have : PalTo m (ss.take m) m ↔ PalTo m ss m := by
    constructor
    · intro h2 i hi
      have := h2 i hi
      rw [e i hi, e (m - 1 - i) (by omega)] at this; exact this
    · intro h2 i hi
      rw [e i hi, e (m - 1 - i) (by omega)]; exact h2 i hi
  unfold palB
  by_cases h2 : PalTo m ss m
  · rw [decide_eq_true h2, decide_eq_true (this.2 h2)]
  · rw [decide_eq_false h2, decide_eq_false (fun h3 => h2 (this.1 h3))]
theorem Rd.take {w : World} {A : Option Addr} {n m : Nat} {ss : List ByteArray} (h : Rd w A n (strsV ss)) (hm : m ≤ n) : Rd w A m (strsV (ss.take m)) := by
  have hl := h.slen
  refine ⟨by rw [strsV_length, List.length_take]; omega, Nat.le_trans hm h.2.1, ?_⟩
  rcases Nat.eq_zero_or_pos m with h0 | h0
  · exact .inl h0
  · obtain ⟨b, off, rfl, hb, hc⟩ := h.strD (show 0 < n by omega)
    refine .inr ⟨b, off, rfl, hb, fun j v hv => ?_⟩
    have hj : j < m := by
      have := (List.getElem?_eq_some_iff.1 hv).1
      rw [strsV_length, List.length_take] at this; omega
    rw [hc j (by omega), ← hv]
    simp [strsV, getS, hj, List.getElem?_eq_getElem (show j < ss.length by omega)]
set_option maxRecDepth 100000 in
set_option maxHeartbeats 1000000 in
theorem sameBothWays_any (A : Option Addr) (m c : Nat) (ss : List ByteArray) (w : World) (hm : m ≤ 4194304) (hr : Rd w A m (strsV ss)) :
    Calls Try.prog 79 #[.slice A m c] w fun e w' => e = .returned (.bool (palB m ss)) ∧ ∃ d, w' = w.drewN d := by
  have Hr := Lib.hid hr
  clear hr
  go_enter Try.func79, Try.ntmps79
  go_wp2
  go_loopw [6] (fun i wr => ∃ k d : Nat, k ≤ m ∧ i = .int .i64 k ∧ Hid (PalTo m ss k) ∧ wr = w.drewN d) (fun i _ => m - (intOf i).toNat)
  case atStart => exact ⟨0, 0, by omega, rfl, fun j hj => by omega, rfl⟩
  case round =>
    obtain ⟨k, d, hk, rfl, HT, rfl⟩ := hrel
    by_cases hlt : k < m
    · obtain ⟨b, off, rfl, hbs, hcs⟩ := Hr.out.strD (k := k) (by omega)
      obtain ⟨j, hj⟩ : ∃ j : Nat, m - 1 - k = j := ⟨_, rfl⟩
      have hjI : (m : Int) - 1 - (k : Int) = (j : Int) := by omega
      have hck := hcs k (by omega)
      have hcj := hcs j (by omega)
      obtain ⟨x, hx⟩ : ∃ x, x = getS ss k := ⟨_, rfl⟩
      obtain ⟨y, hy⟩ : ∃ y, y = getS ss j := ⟨_, rfl⟩
      rw [← hx] at hck
      rw [← hy] at hcj
      have Hx := Lib.hid hx
      have Hy : Hid (y = getS ss (m - 1 - k)) := by unfold Hid; rw [hj]; exact hy
      clear hcs hx hy
      have k0 : (0 : Int) ≤ (k : Int) := by omega
      have k1 : (k : Int) < (m : Int) := by omega
      have k2 : (0 : Int) ≤ (j : Int) := by omega
      have k3 : (j : Int) < (m : Int) := by omega
      have kw1 : IntKind.i64.wrap ((m : Int) - 1) = (m : Int) - 1 := by rw [IntKind.wrap_i64]; omega
      have kw2 : IntKind.i64.wrap ((m : Int) - 1 - (k : Int)) = (j : Int) := by rw [IntKind.wrap_i64]; omega
      have kw3 : IntKind.i64.wrap (j : Int) = (j : Int) := by rw [IntKind.wrap_i64]; omega
      by_cases he : x = y
      · have HT2 : Hid (PalTo m ss (k + 1)) := fun i hi => by
          by_cases e : i = k
          · subst e; rw [← Hx.out, ← Hy.out]; exact he
          · exact HT.out i (by omega)
        subst he
        clear Hx Hy hj
        go_wp2
        go_quiet (fail)
        go_wp2
        go_roundw
        case rel => exact ⟨k + 1, _, by omega, by go_num, HT2.out, rfl⟩
        case measure => simp [intOf]; omega
      · have E : Hid (palB m ss = false) := decide_eq_false fun h => he (by rw [Hx.out, Hy.out]; exact h k hlt)
        have hneL := ne_list he
        clear Hx Hy hj he
        go_wp2
        go_quiet (fail)
        go_wp2
        go_ret
        exact ⟨ret_b E.out, _, World.drewN_drewN _ _ _⟩
    · have E : Hid (palB m ss = true) := decide_eq_true fun i hi => HT.out i (by omega)
      have hge : (m : Int) ≤ (k : Int) := by omega
      clear hlt
      go_wp2
      go_ret
      exact ⟨ret_b E.out, _, rfl⟩
end Go.Proofs.Ytgpjbmlemnjhfaa
