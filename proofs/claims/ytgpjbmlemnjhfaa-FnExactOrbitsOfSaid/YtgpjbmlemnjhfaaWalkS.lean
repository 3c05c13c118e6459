/- The walks of the laws' helpers over slices of strings. -/
import Derived.Test.YtgpjbmlemnjhfaaProg
import Derived.Test.YtgpjbmlemnjhfaaKit3
import Derived.Test.YtgpjbmlemnjhfaaPlainS
import Derived.WalkKit
import Derived.WalkSpells
import Derived.WalkLawsBesides
import Derived.Deep.QuietTactic
import Derived.Deep.RegionHeld3
import Derived.BigQuiet
import Derived.Lib.Hide
namespace Go.Proofs.Ytgpjbmlemnjhfaa
open Go.RowKit
set_option linter.unusedVariables false

theorem info_str : (Try.prog.info? 9).map (fun i => (i.zero, i.size, i.bytes)) = some (some (.string ByteArray.empty), 1, 16) := by kernel_rfl

theorem one_byte {P : Program} (w : World) (src dst e : TypeId) (v : Int) (c : UInt8) (hv : v = (c.toNat : Int)) (hs : P.underlying src = some (.slice e)) (he : P.underlying e = some (.int .u8)) (hd : P.underlying dst = some .string) :
    ∃ t, (convert src dst (.slice (some ⟨w.heap.size, 0, none⟩) 1 1)).run P (w.alloc (.cells #[.int .u8 v] e)) = .ok (.string t) (w.alloc (.cells #[.int .u8 v] e)) ∧ bs t = [c] ∧ t.size ≤ 1 := by
  subst hv
  have hm : Mem (w.alloc (.cells #[.int .u8 (c.toNat : Int)] e)) w.heap.size (u8s [c]) := Mem.of_own (own_one w e (.int .u8 (c.toNat : Int))).1
  exact ⟨_, hm.back src dst e 1 1 rfl hs he hd, bs_mkS _, Nat.le_of_eq (size_mkS _)⟩

set_option maxRecDepth 100000 in
set_option maxHeartbeats 400000 in
theorem markText_any (k : Int) (K : Nat) (w : World) (hK : k = (K : Int)) (h1 : 1 ≤ K) (h2 : K ≤ 1099511627776) :
    Calls Try.prog 51 #[.int .i64 k] w fun e w' => e = .returned (.string (mtext K)) ∧ Below w.heap.size w w' := by
  have HK := Lib.hid hK
  have i1 : (0 : Int) < k := by omega
  have i2 : decide (k ≤ 0) = false := by simp; omega
  clear hK
  go_enter Try.func51, Try.ntmps51
  go_wp2
  go_loopw [0, 3] (fun i o wr => ∃ (q f : Nat) (t : ByteArray), i = .int .i64 q ∧ o = .string t ∧ q ≤ f ∧ Hid (mdig f q (bs t) = mdig K K []) ∧ t.size + q ≤ K ∧ Below w.heap.size w wr) (fun i _ _ => (intOf i).toNat)
  case atStart => exact ⟨K, K, _, by rw [HK.out], rfl, Nat.le_refl _, rfl, Nat.le_of_eq (Nat.zero_add K), Below.refl _ _⟩
  case round =>
    obtain ⟨q, f, t, rfl, rfl, hqf, Hm, htq, hb⟩ := hrel
    by_cases hq : 0 < q
    · have hq' : (0 : Int) < (q : Int) := by omega
      obtain ⟨t1, hcv, ht1, hz1⟩ := one_byte (P := Try.prog) wr 64 9 5 (48 + (q : Int) % 10) (UInt8.ofNat (48 + q % 10)) (by rw [UInt8.toNat_ofNat', Nat.mod_eq_of_lt (by omega)]; omega) Try.underlying64 Try.underlying5 Try.underlying9
      have HN : Hid (mdig (f - 1) (q / 10) (bs (t1 ++ t)) = mdig K K []) := by
        unfold Hid
        have := Hm.out
        obtain ⟨g, rfl⟩ : ∃ g, f = g + 1 := ⟨f - 1, by omega⟩
        simp only [mdig, if_neg (show ¬ q = 0 by omega)] at this
        rw [← this, bs_append, ht1]; rfl
      have Hz : Hid ((t1 ++ t).size = t.size + 1) := by unfold Hid; rw [← size_bs, bs_append, ht1, List.length_append, size_bs]; simp; omega
      clear ht1
      go_wp2
      go_roundw
      case rel => exact ⟨q / 10, f - 1, _, by go_num, rfl, by omega, HN.out, by rw [Hz.out]; omega, hb.alloc hb.size _⟩
      case measure => simp [intOf]; omega
    · have hq' : (q : Int) ≤ 0 := by omega
      have Hq : Hid (q = 0) := by unfold Hid; omega
      have E : Hid (({ data := #[109] } : ByteArray) ++ t = mtext K) := by
        unfold Hid
        have := Hm.out
        have e : mdig f 0 (bs t) = bs t := by cases f <;> simp [mdig]
        rw [Hq.out, e] at this
        unfold mtext; rw [← this]
        apply bs_inj; simp [bs, mkS]
      clear hq
      go_wp2
      go_ret
      exact ⟨ret_s E.out.symm, hb⟩
set_option maxRecDepth 100000 in
set_option maxHeartbeats 400000 in
theorem eqStringS_same (A1 A2 : Option Addr) (n c1 c2 : Nat) (ss : List ByteArray) (w : World) (h1 : Rd w A1 n (strsV ss)) (h2 : Rd w A2 n (strsV ss)) :
    Calls Try.prog 21 #[.slice A1 n c1, .slice A2 n c2] w fun e w' => e = .returned (.bool true) ∧ ∃ m, w' = w.drewN m := by
  have hn := h1.lenB
  have H1 := Lib.hid h1
  have H2 := Lib.hid h2
  clear h1 h2
  go_enter Try.func21, Try.ntmps21
  go_wp2
  go_loopw [5] (fun i wr => ∃ k m : Nat, k ≤ n ∧ i = .int .i64 k ∧ wr = w.drewN m) (fun i _ => n - (intOf i).toNat)
  case atStart => exact ⟨0, 0, by omega, rfl, rfl⟩
  case round =>
    obtain ⟨k, m, hk, rfl, rfl⟩ := hrel
    by_cases hlt : k < n
    · obtain ⟨b1, o1, rfl, _, hc1⟩ := H1.out.str hlt
      obtain ⟨b2, o2, rfl, _, hc2⟩ := H2.out.str hlt
      have i1 : (0 : Int) ≤ (k : Int) := by omega
      have i2 : (k : Int) < (n : Int) := by omega
      go_wp2
      go_quiet (fail)
      go_wp2
      go_roundw
      case rel => exact ⟨k + 1, _, by omega, by go_num, rfl⟩
      case measure => simp [intOf]; omega
    · go_wp2
      go_ret
      exact ⟨rfl, _, rfl⟩
theorem eqStringS_eq (A1 A2 : Option Addr) (n1 n2 c1 c2 : Nat) (ss : List ByteArray) (w : World) (h1 : Rd w A1 n1 (strsV ss)) (h2 : Rd w A2 n2 (strsV ss)) :
    Calls Try.prog 21 #[.slice A1 n1 c1, .slice A2 n2 c2] w fun e w' => e = .returned (.bool true) ∧ Below w.heap.size w w' := by
  obtain rfl : n1 = n2 := by rw [← h1.slen, h2.slen]
  exact (eqStringS_same A1 A2 n1 c1 c2 ss w h1 h2).mono fun e w' ⟨he, m, hw⟩ => ⟨he, hw ▸ below_drewN' (Below.refl _ _) m⟩
set_option maxRecDepth 100000 in
set_option maxHeartbeats 400000 in
theorem markStringS_any (lo hi : Nat) (A : Option Addr) (n c : Nat) (xs : List Value) (k : Int) (K : Nat) (w : World) (hK : k = (K : Int)) (h1 : 1 ≤ K) (h2 : K + n ≤ 1099511627776) (ho : Own w 9 lo hi A n c xs) :
    Calls Try.prog 22 #[.slice A n c, .int .i64 k] w fun e w' => e = .returned (.int .i64 ((K : Int) + (n : Int))) ∧ Own w' 9 lo hi A n c (strsV (marks K n)) ∧ Wr lo hi w w' := by
  have HK := Lib.hid hK
  have Ho := Lib.hid ho
  have b1 : (1 : Int) ≤ (K : Int) := by omega
  have b2 : (K : Int) + (n : Int) ≤ 1099511627776 := by omega
  clear hK ho
  go_enter Try.func22, Try.ntmps22
  go_wp2
  go_loopw [1, 5] (fun kk i wr => ∃ q : Nat, q ≤ n ∧ i = .int .i64 q ∧ kk = .int .i64 ((K : Int) + (q : Int)) ∧ Hid (Own wr 9 lo hi A n c (setTo (fun j => Value.string (mtext (K + j))) xs q)) ∧ Hid (Wr lo hi w wr)) (fun _ i _ => n - (intOf i).toNat)
  case atStart => exact ⟨0, by omega, rfl, val_i (by rw [HK.out]; omega), Ho.out, Wr.refl _ _ _⟩
  case round =>
    obtain ⟨q, hq, rfl, rfl, HO, HW⟩ := hrel
    by_cases hlt : q < n
    · obtain ⟨g, rfl, g1, g2, g3⟩ := HO.out.form (by omega)
      have i1 : (q : Int) < (n : Int) := by omega
      have i2 : (1 : Int) ≤ (K : Int) + (q : Int) := by omega
      have i3 : (K : Int) + (q : Int) ≤ 1099511627776 := by omega
      go_wp2_with fail
      refine (markText_any _ (K + q) _ (by omega) (by omega) (by omega)).mono ?_
      rintro e w1 ⟨rfl, hb⟩
      have HO1 := Lib.hid (HO.out.below hb)
      have hl : q < (setTo (fun j => Value.string (mtext (K + j))) xs q).length := by rw [HO1.out.len]; exact hlt
      obtain ⟨v0, hc⟩ : ∃ v0, w1.cell? ⟨g, q, none⟩ = some v0 := ⟨_, HO1.out.mem.get hl⟩
      have hf : w1.frozen? ⟨g, q, none⟩ = false := HO1.out.mem.free hl
      have HN : Hid (Own (w1.setCell ⟨g, q, none⟩ (.string (mtext (K + q)))) 9 lo hi (some ⟨g, 0, none⟩) n c (setTo (fun j => Value.string (mtext (K + j))) xs (q + 1))) := HO1.out.set_ q _
      have HW1 : Hid (Wr lo hi w (w1.setCell ⟨g, q, none⟩ (.string (mtext (K + q))))) := (HW.out.trans (Wr.of_below hb)).setCell _ ⟨g1, g2⟩ _
      clear hl hb
      go_wp2
      go_roundw
      case rel => exact ⟨q + 1, by omega, by go_num, val_i (by omega), HN.out, HW1.out⟩
      case measure => simp [intOf]; omega
    · have E : Hid (Own wr 9 lo hi A n c (strsV (marks K n))) := by
        have hxl := Ho.out.len
        refine HO.out.congr ?_
        rw [show q = xs.length by omega]
        exact setTo_all _ _ _ (by rw [strsV_length, marks_length, hxl]) fun j hj => by rw [strsV_get, marks_get]
      have Hq : Hid (q = n) := by unfold Hid; omega
      go_wp2
      go_ret
      exact ⟨ret_i (by rw [Hq.out]), E.out, HW.out⟩
set_option maxRecDepth 100000 in
set_option maxHeartbeats 400000 in
theorem heldStringS_any (A : Option Addr) (n c : Nat) (k : Int) (K : Nat) (w : World) (hK : k = (K : Int)) (h1 : 1 ≤ K) (h2 : K + n ≤ 1099511627776) (hr : Rd w A n (strsV (marks K n))) :
    Calls Try.prog 23 #[.slice A n c, .int .i64 k] w fun e w' => e = .returned (.int .i64 ((K : Int) + (n : Int))) ∧ Below w.heap.size w w' := by
  have HK := Lib.hid hK
  have Hr := Lib.hid hr
  have b1 : (1 : Int) ≤ (K : Int) := by omega
  have b2 : (K : Int) + (n : Int) ≤ 1099511627776 := by omega
  clear hK hr
  go_enter Try.func23, Try.ntmps23
  go_wp2
  go_loopw [1, 5] (fun kk i wr => ∃ q : Nat, q ≤ n ∧ i = .int .i64 q ∧ kk = .int .i64 ((K : Int) + (q : Int)) ∧ Hid (Below w.heap.size w wr)) (fun _ i _ => n - (intOf i).toNat)
  case atStart => exact ⟨0, by omega, rfl, val_i (by rw [HK.out]; omega), Below.refl _ _⟩
  case round =>
    obtain ⟨q, hq, rfl, rfl, HB⟩ := hrel
    by_cases hlt : q < n
    · obtain ⟨b, off, rfl, hbs, hc⟩ := Hr.out.str hlt
      rw [marks_get] at hc
      have i1 : (q : Int) < (n : Int) := by omega
      have i0 : (0 : Int) ≤ (q : Int) := by omega
      have i2 : (1 : Int) ≤ (K : Int) + (q : Int) := by omega
      have i3 : (K : Int) + (q : Int) ≤ 1099511627776 := by omega
      have hcr : wr.cell? ⟨b, off + q, none⟩ = some (.string (mtext (K + q))) := (HB.out.cell (p := ⟨b, off + q, none⟩) hbs).trans hc
      clear hc
      have hbr : b < wr.heap.size := Nat.lt_of_lt_of_le hbs HB.out.size
      have Hct : ∀ W, Calls Try.prog 51 #[.int .i64 ((K : Int) + (q : Int))] W fun e w' => e = .returned (.string (mtext (K + q))) ∧ Below W.heap.size W w' := fun W => markText_any _ (K + q) W (by omega) (by omega) (by omega)
      have HC := Lib.hid Hct
      clear Hct
      go_wp2
      go_region_held3 (fun w' => w'.cell? ⟨b, off + q, none⟩ = some (.string (mtext (K + q)))) (first | go_keep | (exact (hb2.cell (p := ⟨b, off + q, none⟩) (by simpa using hbr)).trans (by simpa using hcr))) (first | (go_at_call 51; refine (HC.out _).mono ?_; rintro e w2 ⟨rfl, hb2⟩))
      have HB2 := Lib.hid (HB.out.drew.trans (hb2.mono HB.out.drew.size))
      go_wp2
      go_roundw
      case rel => exact ⟨q + 1, by omega, by go_num, val_i (by omega), HB2.out⟩
      case measure => simp [intOf]; omega
    · have Hq : Hid (q = n) := by unfold Hid; omega
      go_wp2
      go_ret
      exact ⟨ret_i (by rw [Hq.out]), HB.out⟩
set_option maxRecDepth 100000 in
set_option maxHeartbeats 400000 in
theorem toStringS_any (A : Option Addr) (n c : Nat) (ss : List ByteArray) (w : World) (hn : n ≤ 4294967296) (hr : Rd w A n (strsV ss)) :
    Calls Try.prog 19 #[.slice A n c] w (RetS 9 (strsV ss) w) := by
  have Hr := Lib.hid hr
  clear hr
  obtain ⟨w1, hmk, ho, hbel, hlt1⟩ := make_row (P := Try.prog) w 28 9 (.string ByteArray.empty) 16 Try.underlying28 info_str rfl (by omega) n hn
  have Ho := Lib.hid ho
  clear ho
  go_enter Try.func19, Try.ntmps19
  go_wp2
  go_loopw [4] (fun i wr => ∃ q : Nat, q ≤ n ∧ i = .int .i64 q ∧ Hid (Own wr 9 w.heap.size w1.heap.size (some ⟨w.heap.size, 0, none⟩) n n (setTo (fun j => (strsV ss).getD j undef) (List.replicate n (.string ByteArray.empty)) q)) ∧ Hid (Below w.heap.size w wr) ∧ w1.heap.size ≤ wr.heap.size) (fun i _ => n - (intOf i).toNat)
  case atStart => exact ⟨0, by omega, rfl, Ho.out, hbel, Nat.le_refl _⟩
  case round =>
    obtain ⟨q, hq, rfl, HO, HB, hsz⟩ := hrel
    by_cases hlt : q < n
    · obtain ⟨b, off, rfl, hbs, hc⟩ := Hr.out.str hlt
      have i1 : (q : Int) < (n : Int) := by omega
      have hcr : wr.cell? ⟨b, off + q, none⟩ = _ := (HB.out.cell (p := ⟨b, off + q, none⟩) hbs).trans hc
      clear hc
      have hl : q < (setTo (fun j => (strsV ss).getD j undef) (List.replicate n (Value.string ByteArray.empty)) q).length := by rw [HO.out.len]; exact hlt
      obtain ⟨v0, hc0⟩ : ∃ v0, wr.cell? ⟨w.heap.size, q, none⟩ = some v0 := ⟨_, HO.out.mem.get hl⟩
      have hf : wr.frozen? ⟨w.heap.size, q, none⟩ = false := HO.out.mem.free hl
      have hql : q < ss.length := by have := Hr.out.slen; omega
      have HN : Hid (Own (wr.setCell ⟨w.heap.size, q, none⟩ (.string ss[q])) 9 w.heap.size w1.heap.size (some ⟨w.heap.size, 0, none⟩) n n (setTo (fun j => (strsV ss).getD j undef) (List.replicate n (.string ByteArray.empty)) (q + 1))) := by
        refine (HO.out.set_ q (.string ss[q])).congr ?_
        simp [setTo, strsV, List.getElem?_eq_getElem hql]
      clear hl
      go_wp2
      go_roundw
      case rel => exact ⟨q + 1, by omega, by go_num, HN.out, HB.out.setCell (Nat.le_refl _) _, by simp; exact hsz⟩
      case measure => simp [intOf]; omega
    · have E : Hid (Own wr 9 w.heap.size wr.heap.size (some ⟨w.heap.size, 0, none⟩) n n (strsV ss)) := by
        refine (HO.out.mono (Nat.le_refl _) hsz).congr ?_
        have hl := Hr.out.1
        have := setTo_all (fun j => (strsV ss).getD j undef) (List.replicate n (Value.string ByteArray.empty)) (strsV ss) (by simp; exact hl) fun j hj => by simp [List.getElem?_eq_getElem hj]
        rw [List.length_replicate] at this
        rw [show q = n by omega]; exact this
      go_wp2
      go_ret
      exact ⟨_, _, _, rfl, E.out, HB.out⟩
set_option maxRecDepth 100000 in
set_option maxHeartbeats 400000 in
theorem szStringS_any (A : Option Addr) (n c : Nat) (ss : List ByteArray) (left : Int) (w : World) (h0 : 0 ≤ left) (h1 : left ≤ 1048576) (hr : Rd w A n (strsV ss)) (hz : ∀ s ∈ ss, s.size ≤ maxLen) :
    Calls Try.prog 17 #[.slice A n c, .int .i64 left] w fun e w' => e = .returned (.int .i64 (szL ss left)) ∧ w = w' := by
  have hn := hr.lenB
  have Hr := Lib.hid hr
  have Hz := Lib.hid hz
  clear hr hz
  by_cases hbig : left < n
  · have E : Hid (szL ss left = -1) := by
      unfold Hid szL
      rw [if_pos (by have := Hr.out.slen; omega)]
    go_enter Try.func17, Try.ntmps17
    go_wp2
    go_ret
    exact ⟨ret_i E.out, rfl⟩
  · have hb : (n : Int) ≤ left := by omega
    clear hbig
    go_enter Try.func17, Try.ntmps17
    go_wp2
    go_loop [1, 5] (fun l i => ∃ (q : Nat) (r : Int), q ≤ n ∧ i = .int .i64 q ∧ l = .int .i64 r ∧ 0 ≤ r ∧ r ≤ 1048576 ∧ Hid (szGo (ss.drop q) r = szL ss left)) (fun _ i => n - (intOf i).toNat)
    case atStart => exact ⟨0, _, by omega, rfl, rfl, by omega, by omega, by unfold Hid szL; have := Hr.out.slen; rw [if_neg (by omega), this]; rfl⟩
    case round =>
      obtain ⟨q, r, hq, rfl, rfl, hr0, hr1, HG⟩ := hrel
      by_cases hlt : q < n
      · obtain ⟨b, off, rfl, hbs, hc⟩ := Hr.out.str hlt
        have hql : q < ss.length := by have := Hr.out.slen; omega
        have i1 : (q : Int) < (n : Int) := by omega
        have hzq : (ss[q].size : Int) ≤ 9223372036854775807 := by have := Hz.out _ (List.getElem_mem hql); unfold maxLen at this; omega
        have HD : Hid (szGo (ss.drop q) r = if r - ss[q].size < 0 then -1 else szGo (ss.drop (q + 1)) (r - ss[q].size)) := by
          unfold Hid
          rw [List.drop_eq_getElem_cons hql]; rfl
        by_cases hneg : r - ss[q].size < 0
        · have hneg' : r < (ss[q].size : Int) := by omega
          have E : Hid (szL ss left = -1) := by
            unfold Hid; rw [← HG.out, HD.out, if_pos hneg]
          clear hneg
          go_wp2
          go_ret
          exact ⟨ret_i E.out, rfl⟩
        · have hneg' : (ss[q].size : Int) ≤ r := by omega
          have HN : Hid (szGo (ss.drop (q + 1)) (r - ss[q].size) = szL ss left) := by
            unfold Hid; rw [← HG.out, HD.out, if_neg hneg]
          clear hneg
          go_wp2
          go_round
          case rel => exact ⟨q + 1, _, by omega, by go_num, rfl, by omega, by omega, HN.out⟩
          case measure => simp [intOf]; omega
      · have E : Hid (szL ss left = r) := by
          unfold Hid; rw [← HG.out, List.drop_of_length_le (by have := Hr.out.slen; omega)]; rfl
        go_wp2
        go_ret
        exact ⟨ret_i E.out, rfl⟩
end Go.Proofs.Ytgpjbmlemnjhfaa
