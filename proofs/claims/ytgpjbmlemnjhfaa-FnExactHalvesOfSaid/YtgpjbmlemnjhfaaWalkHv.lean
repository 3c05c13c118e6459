/- The walks of the halves of a list of changes. -/
import Derived.Test.YtgpjbmlemnjhfaaWalkY
import Derived.Test.YtgpjbmlemnjhfaaWalkM
import Derived.Test.YtgpjbmlemnjhfaaKit5
import Derived.Deep.RegionHeld3
import Derived.IntWalk
namespace Go.Proofs.Ytgpjbmlemnjhfaa
open Go.RowKit
set_option linter.unusedVariables false

theorem Own.cap_ {w : World} {E : TypeId} {lo hi n c : Nat} {A : Option Addr} {xs : List Value} (h : Own w E lo hi A n c xs) : n ≤ c := by
  rcases h.1.2 with ⟨e, h0⟩ | ⟨g, cap, cur, e, _, _, h1, _⟩
  · omega
  · injection e with e1 e2 e3; omega
/-- a split into two odd lists that read the same both ways: n elements in the second -/
def hvP (ss : List ByteArray) (n : Nat) : Bool := decide ((ss.length - n) % 2 = 1 ∧ n % 2 = 1) && (palB (ss.length - n) (ss.take (ss.length - n)) && palB n (ss.drop (ss.length - n)))
def HvIs (ss : List ByteArray) (n : Nat) : Prop := n < ss.length ∧ hvP ss n = true ∧ ∀ j, j < n → hvP ss j = false
open Classical in
noncomputable def hvF (ss : List ByteArray) : Bool := decide (∃ n, HvIs ss n)
open Classical in
noncomputable def hvN (ss : List ByteArray) : Nat := if h : ∃ n, HvIs ss n then Classical.choose h else 0
theorem HvIs.uniq {ss : List ByteArray} {a b : Nat} (ha : HvIs ss a) (hb : HvIs ss b) : a = b := by
  rcases Nat.lt_trichotomy a b with h | h | h
  · have := hb.2.2 a h; rw [ha.2.1] at this; cases this
  · exact h
  · have := ha.2.2 b h; rw [hb.2.1] at this; cases this
theorem HvIs.val {ss : List ByteArray} {n : Nat} (h : HvIs ss n) : hvF ss = true ∧ hvN ss = n := by
  have hx : ∃ n, HvIs ss n := ⟨n, h⟩
  refine ⟨by unfold hvF; simp only [decide_eq_true_eq]; exact hx, ?_⟩
  unfold hvN
  rw [dif_pos hx]
  exact (Classical.choose_spec hx).uniq h
theorem hv_no {ss : List ByteArray} (h : ∀ j, j < ss.length → hvP ss j = false) : hvF ss = false := by
  unfold hvF
  simp only [decide_eq_false_iff_not]
  rintro ⟨n, hn⟩
  have := h n hn.1; rw [hn.2.1] at this; cases this
noncomputable def hvA (ss : List ByteArray) : List ByteArray := if hvF ss = true then ss.take ((ss.length - hvN ss + 1) / 2) else []
noncomputable def hvB (ss : List ByteArray) : List ByteArray := if hvF ss = true then (ss.drop (ss.length - hvN ss)).take ((hvN ss + 1) / 2) else []
theorem hv_even {ss : List ByteArray} {n : Nat} (h : n % 2 = 0) : hvP ss n = false := by
  unfold hvP
  rw [decide_eq_false (by omega)]; rfl
/-- two new slices and a bool, in different blocks -/
def RetSSB (E : TypeId) (xs ys : List Value) (b : Bool) (w : World) (e : Ending) (w' : World) : Prop :=
  ∃ A n c A2 n2 c2 l1 h1 l2 h2, e = .returned (.tuple #[.slice A n c, .slice A2 n2 c2, .bool b]) ∧ Own w' E l1 h1 A n c xs ∧ Own w' E l2 h2 A2 n2 c2 ys ∧ (h1 ≤ l2 ∨ h2 ≤ l1) ∧ w.heap.size ≤ l1 ∧ w.heap.size ≤ l2 ∧ h1 ≤ w'.heap.size ∧ h2 ≤ w'.heap.size ∧ Below w.heap.size w w'
theorem Rd.dropS {w : World} {b off n : Nat} {ss : List ByteArray} (h : Rd w (some ⟨b, off, none⟩) n (strsV ss)) {k : Nat} (hk : k ≤ n) : Rd w (some ⟨b, off + k, none⟩) (n - k) (strsV (ss.drop k)) := by
  have hl := h.slen
  refine ⟨by rw [strsV_length, List.length_drop]; omega, Nat.le_trans (Nat.sub_le _ _) h.2.1, ?_⟩
  rcases h.2.2 with h0 | ⟨b2, o2, e, hb, hc⟩
  · exact .inl (by omega)
  · injection e with e; injection e with e1 e2; subst e1 e2
    refine .inr ⟨b, off + k, rfl, hb, fun j v hv => ?_⟩
    have := hc (k + j) v (by rw [← hv]; simp [strsV, List.map_drop, List.getElem?_drop])
    rwa [← Nat.add_assoc] at this
set_option maxRecDepth 100000 in
set_option maxHeartbeats 1000000 in
theorem l3Same_any (A : Option Addr) (m c : Nat) (ss : List ByteArray) (w : World) (hm : m ≤ 4194304) (hr : Rd w A m (strsV ss)) :
    Calls Try.prog 76 #[.slice A m c] w fun e w' => e = .returned (.bool (palB m ss && decide (m % 2 = 1))) ∧ ∃ d, w' = w.drewN d := by
  have Hr := Lib.hid hr
  clear hr
  go_enter Try.func76, Try.ntmps76
  go_wp2
  go_loopw [6] (fun i wr => ∃ k d : Nat, k ≤ m ∧ i = .int .i64 k ∧ Hid (PalTo m ss k) ∧ wr = w.drewN d) (fun i _ => m - (intOf i).toNat)
  case atStart => exact ⟨0, 0, by omega, rfl, fun j hj => by omega, rfl⟩
  case round =>
    obtain ⟨k, d, hk, rfl, HT, rfl⟩ := hrel
    by_cases hlt : k < m
    · obtain ⟨b, off, rfl, hbs, hcs⟩ := Hr.out.strD (k := k) (by omega)
      obtain ⟨j, hj⟩ : ∃ j : Nat, m - 1 - k = j := ⟨_, rfl⟩
      have hjI : (m : Int) - 1 - (k : Int) = (j : Int) := by omega
      have hck := hcs k (by omega)
      have hcj := hcs j (by omega)
      obtain ⟨x, hx⟩ : ∃ x, x = getS ss k := ⟨_, rfl⟩
      obtain ⟨y, hy⟩ : ∃ y, y = getS ss j := ⟨_, rfl⟩
      rw [← hx] at hck
      rw [← hy] at hcj
      have Hx := Lib.hid hx
      have Hy : Hid (y = getS ss (m - 1 - k)) := by unfold Hid; rw [hj]; exact hy
      clear hcs hx hy
      have k0 : (0 : Int) ≤ (k : Int) := by omega
      have k1 : (k : Int) < (m : Int) := by omega
      have k2 : (0 : Int) ≤ (j : Int) := by omega
      have k3 : (j : Int) < (m : Int) := by omega
      have kw1 : IntKind.i64.wrap ((m : Int) - 1) = (m : Int) - 1 := by rw [IntKind.wrap_i64]; omega
      have kw2 : IntKind.i64.wrap ((m : Int) - 1 - (k : Int)) = (j : Int) := by rw [IntKind.wrap_i64]; omega
      have kw3 : IntKind.i64.wrap (j : Int) = (j : Int) := by rw [IntKind.wrap_i64]; omega
      by_cases he : x = y
      · have HT2 : Hid (PalTo m ss (k + 1)) := fun i hi => by
          by_cases e : i = k
          · subst e; rw [← Hx.out, ← Hy.out]; exact he
          · exact HT.out i (by omega)
        subst he
        clear Hx Hy hj
        go_wp2
        go_quiet (fail)
        go_wp2
        go_roundw
        case rel => exact ⟨k + 1, _, by omega, by go_num, HT2.out, rfl⟩
        case measure => simp [intOf]; omega
      · have E : Hid (palB m ss = false) := decide_eq_false fun h => he (by rw [Hx.out, Hy.out]; exact h k hlt)
        have hneL := ne_list he
        clear Hx Hy hj he
        go_wp2
        go_quiet (fail)
        go_wp2
        go_ret
        exact ⟨ret_b (by rw [E.out]; rfl), _, World.drewN_drewN _ _ _⟩
    · have E : Hid (palB m ss = true) := decide_eq_true fun i hi => HT.out i (by omega)
      have hge : (m : Int) ≤ (k : Int) := by omega
      have E2 : Hid (((m : Int) % 2 == 1) = decide (m % 2 = 1)) := by
        unfold Hid
        rw [Bool.eq_iff_iff]; simp; omega
      clear hlt
      go_wp2
      go_ret
      exact ⟨ret_b (by rw [E.out, Bool.true_and]; exact E2.out.symm), _, rfl⟩
set_option maxRecDepth 100000 in
set_option maxHeartbeats 2000000 in
theorem l3Halves_any (A : Option Addr) (L c : Nat) (ss : List ByteArray) (w : World) (h40 : L ≤ 40) (hLc : L ≤ c) (hr : Rd w A L (strsV ss)) :
    Calls Try.prog 48 #[.slice A L c] w (RetSSB 9 (strsV (hvA ss)) (strsV (hvB ss)) (hvF ss) w) := by
  have Hr := Lib.hid hr
  have Hl := Lib.hid hr.slen
  clear hr
  go_enter Try.func48, Try.ntmps48
  go_wp2
  go_loopw [5] (fun i wr => ∃ n d : Nat, 1 ≤ n ∧ (n ≤ L ∨ n = 1) ∧ i = .int .i64 n ∧ Hid (∀ j, j < n → hvP ss j = false) ∧ wr = w.drewN d) (fun i _ => L - (intOf i).toNat)
  case atStart => exact ⟨1, 0, by omega, by omega, rfl, fun j hj => hv_even (by omega), rfl⟩
  case round =>
    obtain ⟨n, d, hn1, hnL, rfl, HJ, rfl⟩ := hrel
    by_cases hlt : n < L
    · obtain ⟨b, off, rfl, hbs, _⟩ := Hr.out.strD (k := 0) (by omega)
      obtain ⟨k, hk⟩ : ∃ k : Nat, L - n = k := ⟨_, rfl⟩
      have hkI : (L : Int) - (n : Int) = (k : Int) := by omega
      have hLk : L - k = n := by omega
      have hP : hvP ss n = (decide (k % 2 = 1 ∧ n % 2 = 1) && (palB k (ss.take k) && palB n (ss.drop k))) := by unfold hvP; rw [Hl.out, hk]
      have R1 := Hr.out.take (m := k) (by omega)
      have R2 := Hr.out.dropS (k := k) (by omega)
      rw [hLk] at R2
      have HS1 : Hid (∀ d', Calls Try.prog 76 #[.slice (some ⟨b, off, none⟩) k c] (w.drewN d') fun e w' => e = .returned (.bool (palB k (ss.take k) && decide (k % 2 = 1))) ∧ ∃ d, w' = (w.drewN d').drewN d) := fun d' => l3Same_any _ k c _ (w.drewN d') (by omega) R1
      have HS2 : Hid (∀ d', Calls Try.prog 76 #[.slice (some ⟨b, off + k, none⟩) n (c - k)] (w.drewN d') fun e w' => e = .returned (.bool (palB n (ss.drop k) && decide (n % 2 = 1))) ∧ ∃ d, w' = (w.drewN d').drewN d) := fun d' => l3Same_any _ n (c - k) _ (w.drewN d') (by omega) R2
      obtain ⟨q1, hq1⟩ : ∃ q, q = (palB k (ss.take k) && decide (k % 2 = 1)) := ⟨_, rfl⟩
      obtain ⟨q2, hq2⟩ : ∃ q, q = (palB n (ss.drop k) && decide (n % 2 = 1)) := ⟨_, rfl⟩
      rw [← hq1] at HS1
      rw [← hq2] at HS2
      have hPq : hvP ss n = (q1 && q2) := by
        rw [hP, hq1, hq2]
        by_cases e1 : k % 2 = 1 <;> by_cases e2 : n % 2 = 1 <;> simp [e1, e2]
      have HPq := Lib.hid hPq
      have i0 : (0 : Int) ≤ (k : Int) := by omega
      have i1 : (n : Int) < (L : Int) := by omega
      have i2 : (k : Int) ≤ (c : Int) := by omega
      have i3 : (k : Int) ≤ (L : Int) := by omega
      have HJn : Hid (hvP ss n = false → ∀ j, j < n + 1 → hvP ss j = false) := fun h j hj => by
        by_cases e : j = n
        · rw [e]; exact h
        · exact HJ.out j (by omega)
      clear hq1 hq2 hP hPq R1 R2
      cases q1 with
      | true =>
        cases q2 with
        | true =>
          have HV : HvIs ss n := ⟨by have := Hl.out; omega, by rw [HPq.out]; rfl, HJ.out⟩
          have hv := HV.val
          have EA : Hid (hvA ss = ss.take ((k + 1) / 2)) := by unfold Hid hvA; rw [hv.1, if_pos rfl, hv.2, Hl.out, hk]
          have EB : Hid (hvB ss = (ss.drop k).take ((n + 1) / 2)) := by unfold Hid hvB; rw [hv.1, if_pos rfl, hv.2, Hl.out, hk]
          have EF := Lib.hid hv.1
          have HSd := Lib.hid (HS1.out d)
          clear HV hv
          go_wp2_with fail
          refine (HSd.out).mono ?_
          rintro e x ⟨rfl, d1, rfl⟩
          have HSe := Lib.hid (HS2.out (d + d1))
          go_wp2_with fail
          refine (HSe.out).mono ?_
          rintro e x ⟨rfl, d2, rfl⟩
          have HK1 : Hid (1 ≤ k) := by unfold Hid; omega
          go_wp2
          obtain ⟨p, hp⟩ : ∃ p, p = (k + 1) / 2 := ⟨_, rfl⟩
          obtain ⟨r, hrr⟩ : ∃ r, r = (n + 1) / 2 := ⟨_, rfl⟩
          rw [← hp] at EA
          rw [← hrr] at EB
          have hpk : p ≤ k := by have := HK1.out; omega
          have hrn : r ≤ n := by omega
          have Q1 := Hr.out.take (m := p) (by omega)
          have Q2 := (Hr.out.dropS (k := k) (by omega)).take (m := r) (by omega)
          have HO1 : Hid (∀ W, Below w.heap.size w W → Calls Try.prog 77 #[.slice (some ⟨b, off, none⟩) p c] W (RetS 9 (strsV (ss.take p)) W)) := fun W h => l1OwnS_any _ p c _ W (by omega) (Q1.below h)
          have HO2 : Hid (∀ W, Below w.heap.size w W → Calls Try.prog 77 #[.slice (some ⟨b, off + k, none⟩) r (c - k)] W (RetS 9 (strsV ((ss.drop k).take r)) W)) := fun W h => l1OwnS_any _ r (c - k) _ W (by omega) (Q2.below h)
          have HBD : Hid (Below w.heap.size w (w.drewN (d + d1 + d2)).drew) := (below_drewN' (Below.refl _ _) _).drew
          have j0 : (0 : Int) ≤ (p : Int) := by omega
          have j1 : (p : Int) ≤ (c : Int) := by omega
          have j2 : (k : Int) ≤ (k : Int) + (r : Int) := by omega
          have j3 : (k : Int) + (r : Int) ≤ (c : Int) := by omega
          have j4 : k + r - k = r := by omega
          have j5 : ((k : Int) + (r : Int)).toNat = k + r := by omega
          have m1 : IntKind.i64.wrap ((k : Int) + 1) = (k : Int) + 1 := IntWalk.i64_in _ (by omega)
          have m2 : ((k : Int) + 1).tdiv 2 = (p : Int) := by rw [Int.tdiv_eq_ediv_of_nonneg (by omega)]; omega
          have m3 : IntKind.i64.wrap ((n : Int) + 1) = (n : Int) + 1 := IntWalk.i64_in _ (by omega)
          have m4 : ((n : Int) + 1).tdiv 2 = (r : Int) := by rw [Int.tdiv_eq_ediv_of_nonneg (by omega)]; omega
          have m5 : IntKind.i64.wrap ((k : Int) + (r : Int)) = (k : Int) + (r : Int) := IntWalk.i64_in _ (by omega)
          have m6 : IntKind.i64.wrap (p : Int) = (p : Int) := IntWalk.i64_in _ (by omega)
          have m7 : IntKind.i64.wrap (r : Int) = (r : Int) := IntWalk.i64_in _ (by omega)
          clear hp hrr Q1 Q2 hpk hrn
          go_region_held3 (fun _ => True) (trivial)
            (first | (go_at_call 77; (with_reducible refine (HO1.out _ ?hB).mono ?_); (case hB => exact HBD.out); rintro e x1 ⟨A1, n1, c1, rfl, ho1, hb1⟩) | (go_at_call 77; (with_reducible refine (HO2.out _ ?hB).mono ?_); (case hB => exact HBD.out.trans (hb1.mono HBD.out.size)); rintro e x2 ⟨A2, n2, c2, rfl, ho2, hb2⟩))
          have HB2 : Hid (Below w.heap.size w x2) := HBD.out.trans ((hb1.trans (hb2.mono hb1.size)).mono HBD.out.size)
          have HO1' : Hid (Own x2 9 (w.drewN (d + d1 + d2)).drew.heap.size x1.heap.size A1 n1 c1 (strsV (ss.take p))) := ho1.below hb2
          have HO2' := Lib.hid ho2
          have s1 := hb1.size
          have s2 := hb2.size
          clear ho1 ho2 hb1 hb2 m1 m2 m3 m4 m5 m6 m7
          go_wp2
          go_ret3
          refine ⟨A1, n1, c1, A2, n2, c2, _, _, _, _, by rw [EF.out]; rfl, HO1'.out.congr (by rw [EA.out]), HO2'.out.congr (by rw [EB.out]), .inl (Nat.le_refl _), Nat.le_refl _, s1, s2, Nat.le_refl _, HB2.out⟩
        | false =>
          have HN := Lib.hid (HJn.out (by rw [HPq.out]; rfl))
          have HSd := Lib.hid (HS1.out d)
          go_wp2_with fail
          refine (HSd.out).mono ?_
          rintro e x ⟨rfl, d1, rfl⟩
          have HSe := Lib.hid (HS2.out (d + d1))
          go_wp2_with fail
          refine (HSe.out).mono ?_
          rintro e x ⟨rfl, d2, rfl⟩
          go_wp2
          go_roundw
          case rel => exact ⟨n + 1, d + d1 + d2, by omega, by omega, by go_num, HN.out, rfl⟩
          case measure => (simp [intOf] <;> omega)
      | false =>
        have HN := Lib.hid (HJn.out (by rw [HPq.out]; rfl))
        have HSd := Lib.hid (HS1.out d)
        go_wp2_with fail
        refine (HSd.out).mono ?_
        rintro e x ⟨rfl, d1, rfl⟩
        go_wp2
        go_roundw
        case rel => exact ⟨n + 1, d + d1, by omega, by omega, by go_num, HN.out, rfl⟩
        case measure => (simp [intOf] <;> omega)
    · have HE : Hid (hvF ss = false) := hv_no fun j hj => HJ.out j (by have := Hl.out; omega)
      have EA : Hid (hvA ss = []) := by unfold Hid hvA; rw [HE.out]; simp
      have EB : Hid (hvB ss = []) := by unfold Hid hvB; rw [HE.out]; simp
      have i1 : (L : Int) ≤ (n : Int) := by omega
      go_wp2
      go_ret3
      refine ⟨none, 0, 0, none, 0, 0, w.heap.size, w.heap.size, w.heap.size, w.heap.size, by rw [HE.out]; rfl, ?_, ?_, .inl (Nat.le_refl _), Nat.le_refl _, Nat.le_refl _, Nat.le_refl _, Nat.le_refl _, below_drewN' (Below.refl _ _) _⟩
      · rw [EA.out]; exact Own.nil _ _ _ _
      · rw [EB.out]; exact Own.nil _ _ _ _
set_option maxRecDepth 100000 in
set_option maxHeartbeats 2000000 in
theorem halves_any (A : Option Addr) (L c : Nat) (ss : List ByteArray) (w : World) (h40 : L ≤ 40) (hLc : L ≤ c) (hr : Rd w A L (strsV ss)) :
    Calls Try.prog 50 #[.slice A L c] w (RetSSB 9 (strsV (hvA ss)) (strsV (hvB ss)) (hvF ss) w) := by
  have Hr := Lib.hid hr
  have Hl := Lib.hid hr.slen
  clear hr
  go_enter Try.func50, Try.ntmps50
  go_wp2
  go_loopw [5] (fun i wr => ∃ h d : Nat, 1 ≤ h ∧ h ≤ 40 ∧ i = .int .i64 h ∧ Hid (∀ j, j + 1 < 2 * h → hvP ss j = false) ∧ wr = w.drewN d) (fun i _ => L - (intOf i).toNat)
  case atStart => exact ⟨1, 0, by omega, by omega, rfl, fun j hj => hv_even (by omega), rfl⟩
  case round =>
    obtain ⟨h, d, hn1, hnL, rfl, HJ, rfl⟩ := hrel
    by_cases hlt : 2 * h ≤ L
    · obtain ⟨b, off, rfl, hbs, _⟩ := Hr.out.strD (k := 0) (by omega)
      obtain ⟨n, hn⟩ : ∃ n : Nat, n = 2 * h - 1 := ⟨_, rfl⟩
      obtain ⟨k, hk⟩ : ∃ k : Nat, L - n = k := ⟨_, rfl⟩
      have hkI : (L : Int) - 2 * (h : Int) + 1 = (k : Int) := by omega
      have hn2 : n % 2 = 1 := by omega
      have hLk : L - k = n := by omega
      have hP : hvP ss n = (decide (k % 2 = 1 ∧ n % 2 = 1) && (palB k (ss.take k) && palB n (ss.drop k))) := by unfold hvP; rw [Hl.out, hk]
      have R1 := Hr.out.take (m := k) (by omega)
      have R2 := Hr.out.dropS (k := k) (by omega)
      rw [hLk] at R2
      have HS1 : Hid (∀ d', Calls Try.prog 79 #[.slice (some ⟨b, off, none⟩) k c] (w.drewN d') fun e w' => e = .returned (.bool (palB k (ss.take k))) ∧ ∃ d, w' = (w.drewN d').drewN d) := fun d' => sameBothWays_any _ k c _ (w.drewN d') (by omega) R1
      have HS2 : Hid (∀ d', Calls Try.prog 79 #[.slice (some ⟨b, off + k, none⟩) n (c - k)] (w.drewN d') fun e w' => e = .returned (.bool (palB n (ss.drop k))) ∧ ∃ d, w' = (w.drewN d').drewN d) := fun d' => sameBothWays_any _ n (c - k) _ (w.drewN d') (by omega) R2
      obtain ⟨q1, hq1⟩ : ∃ q, q = palB k (ss.take k) := ⟨_, rfl⟩
      obtain ⟨q2, hq2⟩ : ∃ q, q = palB n (ss.drop k) := ⟨_, rfl⟩
      rw [← hq1] at HS1 hP
      rw [← hq2] at HS2 hP
      obtain ⟨q0, hq0⟩ : ∃ q : Bool, q = ((k : Int) % 2 == 1) := ⟨_, rfl⟩
      have hq0' : ((k : Int) % 2 == 1) = q0 := hq0.symm
      have HPq : Hid (hvP ss n = (q0 && (q1 && q2))) := by
        unfold Hid
        rw [hP]; congr 1
        rw [hq0, Bool.eq_iff_iff]; simp; omega
      have HQ0 : Hid (q0 = true → k % 2 = 1) := fun e => by rw [hq0] at e; simp at e; omega
      have i0 : (0 : Int) ≤ (k : Int) := by omega
      have i1 : 2 * (h : Int) ≤ (L : Int) := by omega
      have i2 : (k : Int) ≤ (c : Int) := by omega
      have i3 : (k : Int) ≤ (L : Int) := by omega
      have HJn : Hid (hvP ss n = false → ∀ j, j + 1 < 2 * (h + 1) → hvP ss j = false) := fun h2 j hj => by
        by_cases e : j = n
        · rw [e]; exact h2
        · by_cases e2 : j % 2 = 0
          · exact hv_even e2
          · exact HJ.out j (by omega)
      have HJ2 : Hid (∀ j, j < n → hvP ss j = false) := fun j hj => HJ.out j (by omega)
      have hnh : 2 * h = n + 1 := by omega
      have HNH := Lib.hid hnh
      clear hq1 hq2 hP R1 R2 hq0 hn hnh
      cases q0 with
      | true =>
        cases q1 with
        | true =>
          cases q2 with
          | true =>
            have HV : HvIs ss n := ⟨by have := Hl.out; have := HNH.out; omega, by rw [HPq.out]; rfl, HJ2.out⟩
            have hv := HV.val
            have EA : Hid (hvA ss = ss.take ((k + 1) / 2)) := by unfold Hid hvA; rw [hv.1, if_pos rfl, hv.2, Hl.out, hk]
            have EB : Hid (hvB ss = (ss.drop k).take ((n + 1) / 2)) := by unfold Hid hvB; rw [hv.1, if_pos rfl, hv.2, Hl.out, hk]
            have EF := Lib.hid hv.1
            have HSd := Lib.hid (HS1.out d)
            clear HV hv
            go_wp2_with fail
            refine (HSd.out).mono ?_
            rintro e x ⟨rfl, d1, rfl⟩
            have HSe := Lib.hid (HS2.out (d + d1))
            go_wp2_with fail
            refine (HSe.out).mono ?_
            rintro e x ⟨rfl, d2, rfl⟩
            have HK1 : Hid (1 ≤ k) := by unfold Hid; omega
            go_wp2
            obtain ⟨p, hp⟩ : ∃ p, p = (k + 1) / 2 := ⟨_, rfl⟩
            have hrr : (n + 1) / 2 = h := by have := HNH.out; omega
            rw [← hp] at EA
            rw [hrr] at EB
            obtain ⟨r, hr2⟩ : ∃ r, r = h := ⟨_, rfl⟩
            subst hr2
            have hpk : p ≤ k := by have := HK1.out; omega
            have hrn : r ≤ n := by have := HNH.out; omega
            have Q1 := Hr.out.take (m := p) (by omega)
            have Q2 := (Hr.out.dropS (k := k) (by omega)).take (m := r) (by omega)
            have HO1 : Hid (∀ W, Below w.heap.size w W → Calls Try.prog 80 #[.slice (some ⟨b, off, none⟩) p c] W (RetS 9 (strsV (ss.take p)) W)) := fun W h => cloneS_any _ p c _ W (by omega) (Q1.below h)
            have HO2 : Hid (∀ W, Below w.heap.size w W → Calls Try.prog 80 #[.slice (some ⟨b, off + k, none⟩) r (c - k)] W (RetS 9 (strsV ((ss.drop k).take r)) W)) := fun W h => cloneS_any _ r (c - k) _ W (by omega) (Q2.below h)
            have HBD : Hid (Below w.heap.size w (w.drewN (d + d1 + d2)).drew) := (below_drewN' (Below.refl _ _) _).drew
            have j0 : (0 : Int) ≤ (p : Int) := by omega
            have j1 : (p : Int) ≤ (c : Int) := by omega
            have j2 : (k : Int) ≤ (k : Int) + (r : Int) := by omega
            have j3 : (k : Int) + (r : Int) ≤ (c : Int) := by omega
            have j4 : k + r - k = r := by omega
            have j5 : ((k : Int) + (r : Int)).toNat = k + r := by omega
            obtain ⟨p2, hp2⟩ : ∃ p2, p2 = k / 2 := ⟨_, rfl⟩
            have hk1 := HQ0.out (by first | rfl | trivial)
            have m1 : (k : Int).tdiv 2 = (p2 : Int) := by rw [Int.tdiv_eq_ediv_of_nonneg (by omega)]; omega
            have m2 : IntKind.i64.wrap (p2 : Int) = (p2 : Int) := IntWalk.i64_in _ (by omega)
            have m3 : IntKind.i64.wrap ((p2 : Int) + 1) = (p : Int) := by rw [IntWalk.i64_in _ (by omega)]; omega
            have m5 : IntKind.i64.wrap ((k : Int) + (r : Int)) = (k : Int) + (r : Int) := IntWalk.i64_in _ (by omega)
            have m6 : IntKind.i64.wrap (p : Int) = (p : Int) := IntWalk.i64_in _ (by omega)
            clear hp2 hk1
            clear hp hrr Q1 Q2 hpk hrn
            go_region_held3 (fun _ => True) (trivial)
              (first | (go_at_call 80; (with_reducible refine (HO1.out _ ?hB).mono ?_); (case hB => exact HBD.out); rintro e x1 ⟨A1, n1, c1, rfl, ho1, hb1⟩) | (go_at_call 80; (with_reducible refine (HO2.out _ ?hB).mono ?_); (case hB => exact HBD.out.trans (hb1.mono HBD.out.size)); rintro e x2 ⟨A2, n2, c2, rfl, ho2, hb2⟩))
            have HB2 : Hid (Below w.heap.size w x2) := HBD.out.trans ((hb1.trans (hb2.mono hb1.size)).mono HBD.out.size)
            have HO1' : Hid (Own x2 9 (w.drewN (d + d1 + d2)).drew.heap.size x1.heap.size A1 n1 c1 (strsV (ss.take p))) := ho1.below hb2
            have HO2' := Lib.hid ho2
            have s1 := hb1.size
            have s2 := hb2.size
            clear ho1 ho2 hb1 hb2 m1 m2 m3 m5 m6
            go_wp2
            go_ret3
            refine ⟨A1, n1, c1, A2, n2, c2, _, _, _, _, by rw [EF.out]; rfl, HO1'.out.congr (by rw [EA.out]), HO2'.out.congr (by rw [EB.out]), .inl (Nat.le_refl _), Nat.le_refl _, s1, s2, Nat.le_refl _, HB2.out⟩
          | false =>
            have HN := Lib.hid (HJn.out (by rw [HPq.out]; rfl))
            have HSd := Lib.hid (HS1.out d)
            go_wp2_with fail
            refine (HSd.out).mono ?_
            rintro e x ⟨rfl, d1, rfl⟩
            have HSe := Lib.hid (HS2.out (d + d1))
            go_wp2_with fail
            refine (HSe.out).mono ?_
            rintro e x ⟨rfl, d2, rfl⟩
            go_wp2
            go_roundw
            case rel => exact ⟨h + 1, d + d1 + d2, by omega, by omega, by go_num, HN.out, rfl⟩
            case measure => (simp [intOf] <;> omega)
        | false =>
          have HN := Lib.hid (HJn.out (by rw [HPq.out]; rfl))
          have HSd := Lib.hid (HS1.out d)
          go_wp2_with fail
          refine (HSd.out).mono ?_
          rintro e x ⟨rfl, d1, rfl⟩
          go_wp2
          go_roundw
          case rel => exact ⟨h + 1, d + d1, by omega, by omega, by go_num, HN.out, rfl⟩
          case measure => (simp [intOf] <;> omega)
      | false =>
        have HN := Lib.hid (HJn.out (by rw [HPq.out]; rfl))
        go_wp2
        go_roundw
        case rel => exact ⟨h + 1, d, by omega, by omega, by go_num, HN.out, rfl⟩
        case measure => (simp [intOf] <;> omega)
    · have HE : Hid (hvF ss = false) := hv_no fun j hj => HJ.out j (by have := Hl.out; omega)
      have EA : Hid (hvA ss = []) := by unfold Hid hvA; rw [HE.out]; simp
      have EB : Hid (hvB ss = []) := by unfold Hid hvB; rw [HE.out]; simp
      have i1 : (L : Int) < 2 * (h : Int) := by omega
      go_wp2
      go_ret3
      refine ⟨none, 0, 0, none, 0, 0, w.heap.size, w.heap.size, w.heap.size, w.heap.size, by rw [HE.out]; rfl, ?_, ?_, .inl (Nat.le_refl _), Nat.le_refl _, Nat.le_refl _, Nat.le_refl _, Nat.le_refl _, below_drewN' (Below.refl _ _) _⟩
      · rw [EA.out]; exact Own.nil _ _ _ _
      · rw [EB.out]; exact Own.nil _ _ _ _
end Go.Proofs.Ytgpjbmlemnjhfaa
