/- The walks of the laws' helpers over slices of ints. -/
import Derived.Test.YtgpjbmlemnjhfaaWalkS
namespace Go.Proofs.Ytgpjbmlemnjhfaa
open Go.RowKit
set_option linter.unusedVariables false

theorem info_int : (Try.prog.info? 3).map (fun i => (i.zero, i.size, i.bytes)) = some (some (.int .i64 0), 1, 8) := by kernel_rfl
set_option maxRecDepth 100000 in
set_option maxHeartbeats 400000 in
theorem eqIntS_same (A1 A2 : Option Addr) (n c1 c2 : Nat) (zs : List Int) (w : World) (h1 : Rd w A1 n (intsV zs)) (h2 : Rd w A2 n (intsV zs)) :
    Calls Try.prog 44 #[.slice A1 n c1, .slice A2 n c2] w fun e w' => e = .returned (.bool true) ∧ ∃ m, w' = w.drewN m := by
  have hn := h1.lenB
  have H1 := Lib.hid h1
  have H2 := Lib.hid h2
  clear h1 h2
  go_enter Try.func44, Try.ntmps44
  go_wp2
  go_loopw [5] (fun i wr => ∃ k m : Nat, k ≤ n ∧ i = .int .i64 k ∧ wr = w.drewN m) (fun i _ => n - (intOf i).toNat)
  case atStart => exact ⟨0, 0, by omega, rfl, rfl⟩
  case round =>
    obtain ⟨k, m, hk, rfl, rfl⟩ := hrel
    by_cases hlt : k < n
    · obtain ⟨b1, o1, rfl, _, hc1⟩ := H1.out.int hlt
      obtain ⟨b2, o2, rfl, _, hc2⟩ := H2.out.int hlt
      have i1 : (0 : Int) ≤ (k : Int) := by omega
      have i2 : (k : Int) < (n : Int) := by omega
      go_wp2
      go_quiet (fail)
      go_wp2
      go_roundw
      case rel => exact ⟨k + 1, _, by omega, by go_num, rfl⟩
      case measure => simp [intOf]; omega
    · go_wp2
      go_ret
      exact ⟨rfl, _, rfl⟩
theorem eqIntS_eq (A1 A2 : Option Addr) (n1 n2 c1 c2 : Nat) (ss : List Int) (w : World) (h1 : Rd w A1 n1 (intsV ss)) (h2 : Rd w A2 n2 (intsV ss)) :
    Calls Try.prog 44 #[.slice A1 n1 c1, .slice A2 n2 c2] w fun e w' => e = .returned (.bool true) ∧ Below w.heap.size w w' := by
  obtain rfl : n1 = n2 := by rw [← h1.ilen, h2.ilen]
  exact (eqIntS_same A1 A2 n1 c1 c2 ss w h1 h2).mono fun e w' ⟨he, m, hw⟩ => ⟨he, hw ▸ below_drewN' (Below.refl _ _) m⟩
set_option maxRecDepth 100000 in
set_option maxHeartbeats 400000 in
theorem markIntS_any (lo hi : Nat) (A : Option Addr) (n c : Nat) (xs : List Value) (k : Int) (K : Nat) (w : World) (hK : k = (K : Int)) (h2 : K + n ≤ 1099511627776) (ho : Own w 3 lo hi A n c xs) :
    Calls Try.prog 45 #[.slice A n c, .int .i64 k] w fun e w' => e = .returned (.int .i64 ((K : Int) + (n : Int))) ∧ Own w' 3 lo hi A n c (intsV (markI K n)) ∧ Wr lo hi w w' := by
  have HK := Lib.hid hK
  have Ho := Lib.hid ho
  have b2 : (K : Int) + (n : Int) ≤ 1099511627776 := by omega
  clear hK ho
  go_enter Try.func45, Try.ntmps45
  go_wp2
  go_loopw [1, 5] (fun kk i wr => ∃ q : Nat, q ≤ n ∧ i = .int .i64 q ∧ kk = .int .i64 ((K : Int) + (q : Int)) ∧ Hid (Own wr 3 lo hi A n c (setTo (fun j => Value.int .i64 ((K : Int) + (j : Int))) xs q)) ∧ Hid (Wr lo hi w wr)) (fun _ i _ => n - (intOf i).toNat)
  case atStart => exact ⟨0, by omega, rfl, val_i (by rw [HK.out]; omega), Ho.out, Wr.refl _ _ _⟩
  case round =>
    obtain ⟨q, hq, rfl, rfl, HO, HW⟩ := hrel
    by_cases hlt : q < n
    · obtain ⟨g, rfl, g1, g2, g3⟩ := HO.out.form (by omega)
      have i1 : (q : Int) < (n : Int) := by omega
      have i3 : (K : Int) + (q : Int) ≤ 1099511627776 := by omega
      have hl : q < (setTo (fun j => Value.int .i64 ((K : Int) + (j : Int))) xs q).length := by rw [HO.out.len]; exact hlt
      obtain ⟨v0, hc⟩ : ∃ v0, wr.cell? ⟨g, q, none⟩ = some v0 := ⟨_, HO.out.mem.get hl⟩
      have hf : wr.frozen? ⟨g, q, none⟩ = false := HO.out.mem.free hl
      have HN : Hid (Own (wr.setCell ⟨g, q, none⟩ (.int .i64 ((K : Int) + (q : Int)))) 3 lo hi (some ⟨g, 0, none⟩) n c (setTo (fun j => Value.int .i64 ((K : Int) + (j : Int))) xs (q + 1))) := HO.out.set_ q _
      have HW1 : Hid (Wr lo hi w (wr.setCell ⟨g, q, none⟩ (.int .i64 ((K : Int) + (q : Int))))) := HW.out.setCell _ ⟨g1, g2⟩ _
      clear hl
      go_wp2
      go_roundw
      case rel => exact ⟨q + 1, by omega, by go_num, val_i (by omega), HN.out, HW1.out⟩
      case measure => simp [intOf]; omega
    · have E : Hid (Own wr 3 lo hi A n c (intsV (markI K n))) := by
        have hxl := Ho.out.len
        refine HO.out.congr ?_
        rw [show q = xs.length by omega]
        exact setTo_all _ _ _ (by rw [intsV_length, markI_length, hxl]) fun j hj => by rw [intsV_get, markI_get]; exact val_i (by omega)
      have Hq : Hid (q = n) := by unfold Hid; omega
      go_wp2
      go_ret
      exact ⟨ret_i (by rw [Hq.out]), E.out, HW.out⟩
set_option maxRecDepth 100000 in
set_option maxHeartbeats 400000 in
theorem heldIntS_any (A : Option Addr) (n c : Nat) (k : Int) (K : Nat) (w : World) (hK : k = (K : Int)) (h2 : K + n ≤ 1099511627776) (hr : Rd w A n (intsV (markI K n))) :
    Calls Try.prog 46 #[.slice A n c, .int .i64 k] w fun e w' => e = .returned (.int .i64 ((K : Int) + (n : Int))) ∧ w = w' := by
  have HK := Lib.hid hK
  have Hr := Lib.hid hr
  have b2 : (K : Int) + (n : Int) ≤ 1099511627776 := by omega
  clear hK hr
  go_enter Try.func46, Try.ntmps46
  go_wp2
  go_loop [1, 5] (fun kk i => ∃ q : Nat, q ≤ n ∧ i = .int .i64 q ∧ kk = .int .i64 ((K : Int) + (q : Int))) (fun _ i => n - (intOf i).toNat)
  case atStart => exact ⟨0, by omega, rfl, val_i (by rw [HK.out]; omega)⟩
  case round =>
    obtain ⟨q, hq, rfl, rfl⟩ := hrel
    by_cases hlt : q < n
    · obtain ⟨b, off, rfl, hbs, hc⟩ := Hr.out.int hlt
      have hc' : w.cell? ⟨b, off + q, none⟩ = some (.int .i64 ((K : Int) + (q : Int))) := by rw [hc, markI_get]; rfl
      clear hc
      have i1 : (q : Int) < (n : Int) := by omega
      have i3 : (K : Int) + (q : Int) ≤ 1099511627776 := by omega
      go_wp2
      go_round
      case rel => exact ⟨q + 1, by omega, by go_num, val_i (by omega)⟩
      case measure => simp [intOf]; omega
    · have Hq : Hid (q = n) := by unfold Hid; omega
      go_wp2
      go_ret
      exact ⟨ret_i (by rw [Hq.out]), rfl⟩
set_option maxRecDepth 100000 in
set_option maxHeartbeats 400000 in
theorem toIntS_any (A : Option Addr) (n c : Nat) (ss : List Int) (w : World) (hn : n ≤ 4294967296) (hr : Rd w A n (intsV ss)) :
    Calls Try.prog 62 #[.slice A n c] w (RetS 3 (intsV ss) w) := by
  have Hr := Lib.hid hr
  clear hr
  obtain ⟨w1, hmk, ho, hbel, hlt1⟩ := make_row (P := Try.prog) w 50 3 (.int .i64 0) 8 Try.underlying50 info_int rfl (by omega) n hn
  have Ho := Lib.hid ho
  clear ho
  go_enter Try.func62, Try.ntmps62
  go_wp2
  go_loopw [4] (fun i wr => ∃ q : Nat, q ≤ n ∧ i = .int .i64 q ∧ Hid (Own wr 3 w.heap.size w1.heap.size (some ⟨w.heap.size, 0, none⟩) n n (setTo (fun j => (intsV ss).getD j undef) (List.replicate n (.int .i64 0)) q)) ∧ Hid (Below w.heap.size w wr) ∧ w1.heap.size ≤ wr.heap.size) (fun i _ => n - (intOf i).toNat)
  case atStart => exact ⟨0, by omega, rfl, Ho.out, hbel, Nat.le_refl _⟩
  case round =>
    obtain ⟨q, hq, rfl, HO, HB, hsz⟩ := hrel
    by_cases hlt : q < n
    · obtain ⟨b, off, rfl, hbs, hc⟩ := Hr.out.int hlt
      have i1 : (q : Int) < (n : Int) := by omega
      have hcr : wr.cell? ⟨b, off + q, none⟩ = _ := (HB.out.cell (p := ⟨b, off + q, none⟩) hbs).trans hc
      clear hc
      have hl : q < (setTo (fun j => (intsV ss).getD j undef) (List.replicate n (Value.int .i64 0)) q).length := by rw [HO.out.len]; exact hlt
      obtain ⟨v0, hc0⟩ : ∃ v0, wr.cell? ⟨w.heap.size, q, none⟩ = some v0 := ⟨_, HO.out.mem.get hl⟩
      have hf : wr.frozen? ⟨w.heap.size, q, none⟩ = false := HO.out.mem.free hl
      have hql : q < ss.length := by have := Hr.out.ilen; omega
      have HN : Hid (Own (wr.setCell ⟨w.heap.size, q, none⟩ (.int .i64 ss[q])) 3 w.heap.size w1.heap.size (some ⟨w.heap.size, 0, none⟩) n n (setTo (fun j => (intsV ss).getD j undef) (List.replicate n (.int .i64 0)) (q + 1))) := by
        refine (HO.out.set_ q (.int .i64 ss[q])).congr ?_
        simp [setTo, intsV, List.getElem?_eq_getElem hql]
      clear hl
      go_wp2
      go_roundw
      case rel => exact ⟨q + 1, by omega, by go_num, HN.out, HB.out.setCell (Nat.le_refl _) _, by simp; exact hsz⟩
      case measure => simp [intOf]; omega
    · have E : Hid (Own wr 3 w.heap.size wr.heap.size (some ⟨w.heap.size, 0, none⟩) n n (intsV ss)) := by
        refine (HO.out.mono (Nat.le_refl _) hsz).congr ?_
        have hl := Hr.out.1
        have := setTo_all (fun j => (intsV ss).getD j undef) (List.replicate n (Value.int .i64 0)) (intsV ss) (by simp; exact hl) fun j hj => by simp [List.getElem?_eq_getElem hj]
        rw [List.length_replicate] at this
        rw [show q = n by omega]; exact this
      go_wp2
      go_ret
      exact ⟨_, _, _, rfl, E.out, HB.out⟩
end Go.Proofs.Ytgpjbmlemnjhfaa
