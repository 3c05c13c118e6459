/- The walk of the reference's merge sort. -/
import Derived.Test.YtgpjbmlemnjhfaaWalkM
import Derived.Test.YtgpjbmlemnjhfaaWalkY
import Derived.Test.YtgpjbmlemnjhfaaKit5
import Derived.Deep.RegionHeld3
import Derived.IntWalk
import Derived.Sort.KeysCollected
import Derived.Sort.Walk0
namespace Go.Proofs.Ytgpjbmlemnjhfaa
open Go.RowKit
set_option linter.unusedVariables false

/-- texts by bytes -/
abbrev leS : List UInt8 → List UInt8 → Bool := fun x y => decide (x ≤ y)
def srt (ss : List ByteArray) : List ByteArray := ((ss.map bs).mergeSort leS).map mkS
theorem leS_tr : ∀ a b c : List UInt8, leS a b = true → leS b c = true → leS a c = true := fun a b c h1 h2 => by simp only [leS, decide_eq_true_eq] at *; exact List.le_trans h1 h2
theorem leS_to : ∀ a b : List UInt8, (leS a b || leS b a) = true := fun a b => by simp only [leS, Bool.or_eq_true, decide_eq_true_eq]; exact List.le_total a b
theorem map_bs_mkS (l : List (List UInt8)) : (l.map mkS).map bs = l := by
  rw [List.map_map]
  conv => rhs; rw [← List.map_id l]
  exact List.map_congr_left fun x _ => bs_mkS x
theorem map_mkS_bs (l : List ByteArray) : (l.map bs).map mkS = l := by
  rw [List.map_map]
  conv => rhs; rw [← List.map_id l]
  exact List.map_congr_left fun x _ => mkS_bs x
theorem srt_bs (ss : List ByteArray) : (srt ss).map bs = (ss.map bs).mergeSort leS := by unfold srt; rw [map_bs_mkS]
theorem srt_len (ss : List ByteArray) : (srt ss).length = ss.length := by unfold srt; simp
/-- whatever is sorted and a permutation is the sorted list -/
theorem srt_of {ss tt : List ByteArray} (hs : (tt.map bs).Pairwise fun a b => leS a b = true) (hp : (tt.map bs).Perm (ss.map bs)) : tt = srt ss := by
  have h : tt.map bs = (ss.map bs).mergeSort leS := by
    refine List.Perm.eq_of_pairwise (le := fun a b => leS a b = true) (fun a b _ _ h1 h2 => ?_) hs (List.pairwise_mergeSort leS_tr leS_to (ss.map bs)) (hp.trans (List.mergeSort_perm _ _).symm)
    simp only [leS, decide_eq_true_eq] at h1 h2
    exact List.le_antisymm h1 h2
  unfold srt
  rw [← h, map_mkS_bs]
theorem srt_small {ss : List ByteArray} (h : ss.length < 2) : srt ss = ss := by
  refine (srt_of (ss := ss) (tt := ss) ?_ (List.Perm.refl _)).symm
  cases ss with
  | nil => simp
  | cons x t => cases t with
    | nil => simp
    | cons y u => exfalso; simp at h; omega
/-- the merge -/
def mrg : List ByteArray → List ByteArray → List ByteArray
  | [], b => b
  | x :: a, [] => x :: a
  | x :: a, y :: b => if leS (bs x) (bs y) = true then x :: mrg a (y :: b) else y :: mrg (x :: a) b
theorem mrg_nil_right : ∀ a, mrg a [] = a
  | [] => by simp [mrg]
  | _ :: _ => by simp [mrg]
theorem mrg_bs : ∀ a b, (mrg a b).map bs = List.merge (a.map bs) (b.map bs) leS
  | [], b => by simp [mrg]
  | x :: a, [] => by simp [mrg]
  | x :: a, y :: b => by
    unfold mrg
    simp only [List.map_cons, List.cons_merge_cons]
    by_cases h : leS (bs x) (bs y) = true
    · rw [if_pos h, if_pos h, List.map_cons, mrg_bs a (y :: b), List.map_cons]
    · rw [if_neg h, if_neg h, List.map_cons, mrg_bs (x :: a) b, List.map_cons]
termination_by a b => a.length + b.length
theorem srt_mrg (ss : List ByteArray) (h : Nat) : mrg (srt (ss.take h)) (srt (ss.drop h)) = srt ss := by
  refine srt_of ?_ ?_
  · rw [mrg_bs, srt_bs, srt_bs]
    exact List.pairwise_merge leS_tr leS_to _ _ (List.pairwise_mergeSort leS_tr leS_to _) (List.pairwise_mergeSort leS_tr leS_to _)
  · rw [mrg_bs, srt_bs, srt_bs]
    refine (List.merge_perm_append ..).trans ?_
    refine ((List.mergeSort_perm _ _).append (List.mergeSort_perm _ _)).trans ?_
    rw [← List.map_append, List.take_append_drop]
/-- a slice that may be read, apart from one that grows -/
def RdO (w : World) (A : Option Addr) (n : Nat) (ss : List ByteArray) (A3 : Option Addr) (L c3 : Nat) : Prop := Rd w A n (strsV ss) ∧ ∀ b off, A = some ⟨b, off, none⟩ → 0 < n → Off A3 L c3 b
theorem RdO.next {w w' : World} {A A3 A4 : Option Addr} {n L c3 L4 c4 : Nat} {ss : List ByteArray} (h : RdO w A n ss A3 L c3) (hx : Wx (Value.slice A3 L c3).ownBlock w w') (hat : (Value.slice A4 L4 c4).ownBlock = (Value.slice A3 L c3).ownBlock ∨ ∃ g, A4 = some ⟨g, 0, none⟩ ∧ w.heap.size ≤ g) : RdO w' A n ss A4 L4 c4 := by
  rcases h.1.2.2 with h0 | ⟨b, off, e, hb, hc⟩
  · exact ⟨⟨h.1.1, h.1.2.1, .inl h0⟩, fun b off _ hn => by omega⟩
  · subst e
    rcases Nat.eq_zero_or_pos n with h0 | h0
    · exact ⟨⟨h.1.1, h.1.2.1, .inl h0⟩, fun b off _ hn => by omega⟩
    · have ho := h.2 b off rfl h0
      exact ⟨hx.rd h.1 ho.ne, fun b2 off2 e _ => by injection e with e; injection e with e1 e2; subst e1; exact ho.next hb hat⟩
theorem Rd.dropS1 {w : World} {b off n : Nat} {x : ByteArray} {ss : List ByteArray} (h : Rd w (some ⟨b, off, none⟩) n (strsV (x :: ss))) : Rd w (some ⟨b, off + 1, none⟩) (n - 1) (strsV ss) := by
  have hl := h.slen
  simp at hl
  refine ⟨by rw [strsV_length]; omega, Nat.le_trans (Nat.sub_le _ _) h.2.1, ?_⟩
  rcases h.2.2 with h0 | ⟨b2, o2, e, hb, hc⟩
  · exact .inl (by omega)
  · injection e with e; injection e with e1 e2; subst e1 e2
    refine .inr ⟨b, off + 1, rfl, hb, fun j v hv => ?_⟩
    have := hc (j + 1) v (by simpa [strsV] using hv)
    rwa [show off + 1 + j = off + (j + 1) by omega]
theorem RdO.tail {w : World} {b off n : Nat} {x : ByteArray} {ss : List ByteArray} {A3 : Option Addr} {L c3 : Nat} (h : RdO w (some ⟨b, off, none⟩) n (x :: ss) A3 L c3) (A' : Option Addr) (hA : 1 < n → A' = some ⟨b, off + 1, none⟩) : RdO w A' (n - 1) ss A3 L c3 := by
  have hl := h.1.slen
  simp at hl
  rcases Nat.lt_or_ge 1 n with h1 | h1
  · rw [hA h1]
    have := h.1.dropS1
    exact ⟨this, fun b2 off2 e hn => by injection e with e; injection e with e1 e2; subst e1; exact h.2 b off rfl (by omega)⟩
  · exact ⟨⟨by rw [strsV_length]; omega, by have := h.1.2.1; omega, .inl (by omega)⟩, fun b2 off2 _ hn => by omega⟩
theorem mrg_step (zs a b : List ByteArray) (x y : ByteArray) : zs ++ mrg (x :: a) (y :: b) = if leS (bs x) (bs y) = true then (zs ++ [x]) ++ mrg a (y :: b) else (zs ++ [y]) ++ mrg (x :: a) b := by
  conv => lhs; unfold mrg
  split <;> simp
theorem less_le (x y : ByteArray) : Op.bytesLess y.toList x.toList = !leS (bs x) (bs y) := by
  rw [Go.Proofs.bytesLess_eq, ByteArray.toList_eq, ByteArray.toList_eq]
  show decide (bs y < bs x) = !decide (bs x ≤ bs y)
  by_cases h : bs x ≤ bs y
  · rw [decide_eq_true h, decide_eq_false (fun h2 => List.not_le.2 h2 h)]; rfl
  · rw [decide_eq_false h, decide_eq_true (List.not_le.1 h)]; rfl
def lenV : Value → Nat | .slice _ n _ => n | _ => 0
theorem Rd.dropK {w : World} {b off n : Nat} {ss : List ByteArray} (h : Rd w (some ⟨b, off, none⟩) n (strsV ss)) {k : Nat} (hk : k ≤ n) : Rd w (some ⟨b, off + k, none⟩) (n - k) (strsV (ss.drop k)) := by
  have hl := h.slen
  refine ⟨by rw [strsV_length, List.length_drop]; omega, Nat.le_trans (Nat.sub_le _ _) h.2.1, ?_⟩
  rcases h.2.2 with h0 | ⟨b2, o2, e, hb, hc⟩
  · exact .inl (by omega)
  · injection e with e; injection e with e1 e2; subst e1 e2
    refine .inr ⟨b, off + k, rfl, hb, fun j v hv => ?_⟩
    have := hc (k + j) v (by rw [← hv]; simp [strsV, List.map_drop, List.getElem?_drop])
    rwa [← Nat.add_assoc] at this
theorem RdO.cell {w : World} {A : Option Addr} {n : Nat} {x : ByteArray} {ss : List ByteArray} {A3 : Option Addr} {L c3 : Nat} (h : RdO w A n (x :: ss) A3 L c3) : 0 < n ∧ ∃ b off, A = some ⟨b, off, none⟩ ∧ w.cell? ⟨b, off, none⟩ = some (.string x) := by
  have hl := h.1.slen
  simp at hl
  obtain ⟨b, off, e, _, hc⟩ := h.1.str (k := 0) (by omega)
  exact ⟨by omega, b, off, e, by simpa using hc⟩
theorem Own.rdo {w : World} {E : TypeId} {lo hi n c : Nat} {A : Option Addr} {ss : List ByteArray} (h : Own w E lo hi A n c (strsV ss)) {A3 : Option Addr} {L c3 : Nat} (hd : ∀ g, lo ≤ g → g < hi → Off A3 L c3 g) : RdO w A n ss A3 L c3 :=
  ⟨h.rd, fun b off e hn => by
    obtain ⟨g, e2, h1, h2, _⟩ := h.form hn
    rw [e] at e2; injection e2 with e2; injection e2 with e3 _
    subst e3; exact hd b h1 h2⟩
set_option maxRecDepth 100000 in
set_option maxHeartbeats 4000000 in
theorem l6Sort_any : ∀ (N : Nat) (A : Option Addr) (n c : Nat) (ss : List ByteArray) (W : World), n ≤ N → n ≤ 1048576 → Rd W A n (strsV ss) →
    Calls Try.prog 87 #[.slice A n c] W (RetS 9 (strsV (srt ss)) W)
  | N, A, n, c, ss, W, hN, hn, hr => by
    have hl := hr.slen
    have HOw := Lib.hid (l1OwnS_any A n c ss W (by omega) hr)
    by_cases h2 : n < 2
    · have E : Hid (srt ss = ss) := srt_small (by omega)
      have Hl := Lib.hid hl
      clear hr hl
      go_enter Try.func87, Try.ntmps87
      go_wp2_with fail
      refine (HOw.out).mono ?_
      rintro e x1 ⟨A1, n1, c1, rfl, ho1, hb1⟩
      have hn1 : n1 < 2 := by have := ho1.rd.slen; have := Hl.out; omega
      have HO1 := Lib.hid ho1
      have HB1 := Lib.hid hb1
      clear ho1 hb1
      go_wp2
      go_ret
      refine ⟨A1, n1, c1, rfl, ?_, HB1.out⟩
      rw [E.out]; exact HO1.out
    · obtain ⟨N2, rfl⟩ : ∃ N2, N = N2 + 1 := ⟨N - 1, by omega⟩
      obtain ⟨h, hh⟩ : ∃ h, h = n / 2 := ⟨_, rfl⟩
      have IH : Hid (∀ A n c ss W, n ≤ N2 → n ≤ 1048576 → Rd W A n (strsV ss) → Calls Try.prog 87 #[.slice A n c] W (RetS 9 (strsV (srt ss)) W)) := fun A n c ss W h1 h2 h3 => l6Sort_any N2 A n c ss W h1 h2 h3
      have HM := Lib.hid (srt_mrg ss h)
      have hl1 : (srt (ss.take h)).length = h := by rw [srt_len, List.length_take]; omega
      have hl2 : (srt (ss.drop h)).length = n - h := by rw [srt_len, List.length_drop]; omega
      have HL1 := Lib.hid hl1
      have HL2 := Lib.hid hl2
      have m1 : (n : Int).tdiv 2 = (h : Int) := by rw [Int.tdiv_eq_ediv_of_nonneg (by omega)]; omega
      have m2 : IntKind.i64.wrap (h : Int) = (h : Int) := IntWalk.i64_in _ (by omega)
      have h0 : 0 < h := by omega
      have hhn : h < n := by omega
      have h2' : 2 ≤ n := by omega
      have Hl := Lib.hid hl
      clear hr hl hl1 hl2 h2 hh
      go_enter Try.func87, Try.ntmps87
      go_wp2_with fail
      refine (HOw.out).mono ?_
      rintro e x1 ⟨A1, n1, c1, rfl, ho1, hb1⟩
      have hn1 : n1 = n := by have := ho1.rd.slen; have := Hl.out; omega
      subst hn1
      obtain ⟨g1, rfl, hg1, hg2, hg3⟩ := ho1.form (by omega)
      have hcap : n1 ≤ c1 := by
        rcases ho1.1.2 with ⟨e, h0⟩ | ⟨g, cap, cur, e, _, _, h1, _⟩
        · omega
        · injection e with e1 e2 e3; omega
      have HO1 := Lib.hid ho1
      have HB1 := Lib.hid hb1
      have i1 : (2 : Int) ≤ (n1 : Int) := by omega
      have i2 : (h : Int) ≤ (c1 : Int) := by omega
      have i3 : (0 : Int) ≤ (h : Int) := by omega
      have i4 : (h : Int) ≤ (n1 : Int) := by omega
      have i5 : (n1 : Int) ≤ (c1 : Int) := by omega
      have i6 : ¬ c1 = h := by omega
      clear ho1 hb1
      have HC1 : Hid (∀ W', Below x1.heap.size x1 W' → Calls Try.prog 87 #[.slice (some ⟨g1, 0, none⟩) h c1] W' (RetS 9 (strsV (srt (ss.take h))) W')) := fun W' hb => IH.out _ h c1 _ W' (by omega) (by omega) ((HO1.out.rd.take (by omega)).below hb)
      have HC2 : Hid (∀ W', Below x1.heap.size x1 W' → Calls Try.prog 87 #[.slice (some ⟨g1, h, none⟩) (n1 - h) (c1 - h)] W' (RetS 9 (strsV (srt (ss.drop h))) W')) := fun W' hb => IH.out _ (n1 - h) (c1 - h) _ W' (by omega) (by omega) (by
        have := HO1.out.rd.dropK (k := h) (by omega)
        rw [Nat.zero_add] at this
        exact this.below hb)
      have HD : Hid (Below x1.heap.size x1 x1.drew) := (Below.refl _ _).drew
      go_wp2
      go_region_held3 (fun _ => True) (trivial)
        (first | (go_at_call 87; (with_reducible refine (HC1.out _ ?hB).mono ?_); (case hB => exact HD.out); rintro e x2 ⟨A2, n2, c2, rfl, ho2, hb2⟩) | (go_at_call 87; (with_reducible refine (HC2.out _ ?hB).mono ?_); (case hB => exact HD.out.trans (hb2.mono HD.out.size)); rintro e x3 ⟨A3, n3, c3, rfl, ho3, hb3⟩))
      have hn2 : n2 = h := by have := ho2.rd.slen; have := HL1.out; omega
      have hn3 : n3 = n1 - h := by have := ho3.rd.slen; have := HL2.out; omega
      have ho2' := ho2.below hb3
      have hk2 : n2 ≤ c2 := by
        rcases ho2.1.2 with ⟨e, h0⟩ | ⟨g, cap, cur, e, _, _, h1, _⟩
        · omega
        · injection e with e1 e2 e3; omega
      have hk3 : n3 ≤ c3 := by
        rcases ho3.1.2 with ⟨e, h0⟩ | ⟨g, cap, cur, e, _, _, h1, _⟩
        · omega
        · injection e with e1 e2 e3; omega
      have HR2 : Hid (RdO x3 A2 n2 (srt (ss.take h)) none 0 0) := ho2'.rdo fun g _ _ k hk => by simp [Value.ownBlock] at hk
      have HR3 : Hid (RdO x3 A3 n3 (srt (ss.drop h)) none 0 0) := ho3.rdo fun g _ _ k hk => by simp [Value.ownBlock] at hk
      have HB3 : Hid (Below W.heap.size W x3) := HB1.out.trans ((HD.out.trans ((hb2.trans (hb3.mono hb2.size)).mono HD.out.size)).mono HB1.out.size)
      have hsum : 0 + n2 + n3 = n1 := by omega
      clear ho2 ho3 ho2' hb2 hb3 hn2 hn3 HC1 HC2 HO1 m1 m2 i1 i2 i3 i4 i5 i6
      go_wp2
      go_loopw [4, 5, 6] (fun a b l wr => ∃ (Aa : Option Addr) (na ca : Nat) (Ab : Option Addr) (nb cb : Nat) (Al : Option Addr) (L cl : Nat) (xs ys zs : List ByteArray), a = .slice Aa na ca ∧ b = .slice Ab nb cb ∧ l = .slice Al L cl ∧ na ≤ ca ∧ nb ≤ cb ∧ L + na + nb = n1 ∧ Hid (RdO wr Aa na xs Al L cl) ∧ Hid (RdO wr Ab nb ys Al L cl) ∧ Hid (Own wr 9 W.heap.size wr.heap.size Al L cl (strsV zs)) ∧ Hid (zs ++ mrg xs ys = srt ss) ∧ Hid (Below W.heap.size W wr)) (fun a b _ _ => lenV a + lenV b)
      case atStart => exact ⟨A2, n2, c2, A3, n3, c3, none, 0, 0, _, _, [], rfl, rfl, rfl, hk2, hk3, hsum, HR2.out, HR3.out, Own.nil _ _ _ _, by simpa [Hid] using HM.out, HB3.out⟩
      case round =>
        obtain ⟨Aa, na, ca, Ab, nb, cb, Al, L, cl, xs, ys, zs, rfl, rfl, rfl, hka, hkb, hs, HRa, HRb, HOl, HM2, HB⟩ := hrel
        have hla := HRa.out.1.slen
        have hlb := HRb.out.1.slen
        cases xs with
        | nil =>
          have i1 : (na : Int) ≤ 0 := by simp at hla; omega
          clear hla hlb
          have EM : Hid (zs ++ [] ++ ys = srt ss) := by unfold Hid; rw [← HM2.out]; simp [mrg]
          go_wp2_with first
            | (at_builtin; refine wpList_appendNx wr rfl (.tmp 56) (.tmp 57) 28 rfl 9 (.string ByteArray.empty) 16 Try.underlying28 info_str rfl W.heap.size Al L cl _ rfl HOl.out Aa na ca _ rfl HRa.out.1.none_ HRa.out.1 (strs_one _) (by omega) (by omega) HB.out.size ?_; intro A5 c5 x5 ho5 hx5 hat5; have hB5 : Below W.heap.size W x5 := HB.out.trans (HOl.out.below_ hx5 HB.out.size); have hR5 := HRb.out.next hx5 hat5)
            | (at_builtin; refine wpList_appendNx x5 rfl (.tmp 58) (.tmp 59) 28 rfl 9 (.string ByteArray.empty) 16 Try.underlying28 info_str rfl W.heap.size A5 (L + na) c5 _ rfl ho5 Ab nb cb _ rfl hR5.1.none_ hR5.1 (strs_one _) (by omega) (by omega) hB5.size ?_; intro A6 c6 x6 ho6 hx6 hat6)
          have HB6 : Hid (Below W.heap.size W x6) := hB5.trans (ho5.below_ hx6 hB5.size)
          have HO6 : Hid (Own x6 9 W.heap.size x6.heap.size A6 n1 c6 (strsV (srt ss))) := by rw [← hs]; exact ho6.congr (by rw [← EM.out, strsV_app, strsV_app])
          clear ho5 hx5 hat5 hB5 hR5 ho6 hx6 hat6
          go_wp2
          go_ret
          exact ⟨A6, _, c6, rfl, HO6.out, HB6.out⟩
        | cons x xt =>
          cases ys with
          | nil =>
            have i1 : (0 : Int) < (na : Int) := by simp at hla; omega
            have i2 : (nb : Int) ≤ 0 := by simp at hlb; omega
            clear hla hlb
            have EM : Hid (zs ++ (x :: xt) ++ [] = srt ss) := by unfold Hid; rw [← HM2.out]; simp [mrg]
            go_wp2_with first
              | (at_builtin; refine wpList_appendNx wr rfl (.tmp 56) (.tmp 57) 28 rfl 9 (.string ByteArray.empty) 16 Try.underlying28 info_str rfl W.heap.size Al L cl _ rfl HOl.out Aa na ca _ rfl HRa.out.1.none_ HRa.out.1 (strs_one _) (by omega) (by omega) HB.out.size ?_; intro A5 c5 x5 ho5 hx5 hat5; have hB5 : Below W.heap.size W x5 := HB.out.trans (HOl.out.below_ hx5 HB.out.size); have hR5 := HRb.out.next hx5 hat5)
              | (at_builtin; refine wpList_appendNx x5 rfl (.tmp 58) (.tmp 59) 28 rfl 9 (.string ByteArray.empty) 16 Try.underlying28 info_str rfl W.heap.size A5 (L + na) c5 _ rfl ho5 Ab nb cb _ rfl hR5.1.none_ hR5.1 (strs_one _) (by omega) (by omega) hB5.size ?_; intro A6 c6 x6 ho6 hx6 hat6)
            have HB6 : Hid (Below W.heap.size W x6) := hB5.trans (ho5.below_ hx6 hB5.size)
            have HO6 : Hid (Own x6 9 W.heap.size x6.heap.size A6 n1 c6 (strsV (srt ss))) := by rw [← hs]; exact ho6.congr (by rw [← EM.out, strsV_app, strsV_app])
            clear ho5 hx5 hat5 hB5 hR5 ho6 hx6 hat6
            go_wp2
            go_ret
            exact ⟨A6, _, c6, rfl, HO6.out, HB6.out⟩
          | cons y yt =>
            obtain ⟨hna, ba, oa, rfl, hca⟩ := HRa.out.cell
            obtain ⟨hnb, bb, ob, rfl, hcb⟩ := HRb.out.cell
            have i1 : (0 : Int) < (na : Int) := by omega
            have i2 : (0 : Int) < (nb : Int) := by omega
            have i3 : (1 : Int) ≤ (na : Int) := by omega
            have i4 : (1 : Int) ≤ (nb : Int) := by omega
            have i5 : (na : Int) ≤ (ca : Int) := by omega
            have i6 : (nb : Int) ≤ (cb : Int) := by omega
            have i7 : (1 : Int) ≤ (ca : Int) := by omega
            have i8 : (1 : Int) ≤ (cb : Int) := by omega
            have HMS := mrg_step zs xt yt x y
            have hbl := less_le x y
            obtain ⟨q, hq⟩ : ∃ q, q = leS (bs x) (bs y) := ⟨_, rfl⟩
            rw [← hq] at HMS hbl
            clear hq
            cases q with
            | true =>
              have HMN : Hid (zs ++ [x] ++ mrg xt (y :: yt) = srt ss) := by unfold Hid; rw [← HM2.out, HMS, if_pos rfl]
              have hbl' : Op.bytesLess y.toList x.toList = false := hbl
              clear HMS hbl HM2
              go_wp2
              go_quiet (fail)
              have HOq : Hid (Own (wr.drewN nq) 9 W.heap.size (wr.drewN nq).heap.size Al L cl (strsV zs)) := HOl.out
              have HBq : Hid (Below W.heap.size W (wr.drewN nq)) := below_drewN' HB.out _
              go_wp2_with (at_builtin; refine wpList_append1x (wr.drewN nq) rfl (.tmp 48) (.tmp 52) 28 rfl 9 (.string ByteArray.empty) 16 Try.underlying28 info_str rfl W.heap.size Al L cl _ (.string x) rfl rfl rfl HOq.out (by omega) (by omega) HBq.out.size ?_; intro A4 c4 w4 ho4 hx4 hsz4 hat4)
              have HO4 : Hid (Own w4 9 W.heap.size w4.heap.size A4 (L + 1) c4 (strsV (zs ++ [x]))) := ho4.congr (by rw [strsV_app, strsV_one])
              have HB4 : Hid (Below W.heap.size W w4) := HBq.out.trans (HOq.out.below_ hx4 HBq.out.size)
              have HRa4 : Hid (RdO w4 (if ca = 1 then some ⟨ba, oa, none⟩ else some ⟨ba, oa + 1, none⟩) (na - 1) xt A4 (L + 1) c4) := ((show RdO (wr.drewN nq) _ na _ Al L cl from HRa.out).next hx4 hat4).tail _ (fun h1 => by rw [if_neg (by omega)])
              have HRb4 : Hid (RdO w4 (some ⟨bb, ob, none⟩) nb (y :: yt) A4 (L + 1) c4) := (show RdO (wr.drewN nq) _ nb _ Al L cl from HRb.out).next hx4 hat4
              clear ho4 hx4 hat4
              go_roundw
              case rel => exact ⟨_, na - 1, ca - 1, _, nb, cb, A4, L + 1, c4, xt, y :: yt, zs ++ [x], rfl, rfl, rfl, by omega, by omega, by omega, HRa4.out, HRb4.out, HO4.out, HMN.out, HB4.out⟩
              case measure => (simp [lenV] <;> omega)
            | false =>
              have HMN : Hid (zs ++ [y] ++ mrg (x :: xt) yt = srt ss) := by unfold Hid; rw [← HM2.out, HMS, if_neg (by simp)]
              have hbl' : Op.bytesLess y.toList x.toList = true := hbl
              clear HMS hbl HM2
              go_wp2
              go_quiet (fail)
              have HOq : Hid (Own (wr.drewN nq) 9 W.heap.size (wr.drewN nq).heap.size Al L cl (strsV zs)) := HOl.out
              have HBq : Hid (Below W.heap.size W (wr.drewN nq)) := below_drewN' HB.out _
              go_wp2_with (at_builtin; refine wpList_append1x (wr.drewN nq) rfl (.tmp 40) (.tmp 44) 28 rfl 9 (.string ByteArray.empty) 16 Try.underlying28 info_str rfl W.heap.size Al L cl _ (.string y) rfl rfl rfl HOq.out (by omega) (by omega) HBq.out.size ?_; intro A4 c4 w4 ho4 hx4 hsz4 hat4)
              have HO4 : Hid (Own w4 9 W.heap.size w4.heap.size A4 (L + 1) c4 (strsV (zs ++ [y]))) := ho4.congr (by rw [strsV_app, strsV_one])
              have HB4 : Hid (Below W.heap.size W w4) := HBq.out.trans (HOq.out.below_ hx4 HBq.out.size)
              have HRb4 : Hid (RdO w4 (if cb = 1 then some ⟨bb, ob, none⟩ else some ⟨bb, ob + 1, none⟩) (nb - 1) yt A4 (L + 1) c4) := ((show RdO (wr.drewN nq) _ nb _ Al L cl from HRb.out).next hx4 hat4).tail _ (fun h1 => by rw [if_neg (by omega)])
              have HRa4 : Hid (RdO w4 (some ⟨ba, oa, none⟩) na (x :: xt) A4 (L + 1) c4) := (show RdO (wr.drewN nq) _ na _ Al L cl from HRa.out).next hx4 hat4
              clear ho4 hx4 hat4
              go_roundw
              case rel => exact ⟨_, na, ca, _, nb - 1, cb - 1, A4, L + 1, c4, x :: xt, yt, zs ++ [y], rfl, rfl, rfl, by omega, by omega, by omega, HRa4.out, HRb4.out, HO4.out, HMN.out, HB4.out⟩
              case measure => (simp [lenV] <;> omega)
end Go.Proofs.Ytgpjbmlemnjhfaa
