/- IsLevel, of the reference and of the program: what each returns. -/
import Derived.Test.YtllbakbhdfoadaaWalkX
namespace Go.Proofs.Ytllbakbhdfoadaa
open Go.RowKit
set_option linter.unusedVariables false

theorem ret_bb {a b x y : Bool} (h : a = x) (h2 : b = y) : Ending.returned (.tuple #[.bool x, .bool y]) = .returned (.tuple #[.bool a, .bool b]) := by rw [h, h2]
theorem below_drewN_ (w : World) (d : Nat) : Below w.heap.size w (w.drewN d) := below_drewN' (Below.refl _ _) _
def out_IL (ss : List ByteArray) : Bool := smallB ss && levelB (cntS ss)
set_option maxRecDepth 100000 in
set_option maxHeartbeats 1000000 in
theorem sp_IsLevel (A : Option Addr) (n c : Nat) (ss : List ByteArray) (W : World) (hr : Rd W A n (strsV ss)) (hz : ∀ s ∈ ss, s.size ≤ 1048576) (hl : ss.length ≤ 1048576) :
    Calls Try.prog 56 #[.slice A n c] W fun e w' => e = .returned (.tuple #[.bool (out_IL ss), .bool (smallB ss)]) ∧ Below W.heap.size W w' := by
  have Hr := Lib.hid hr
  have Hz : Hid (∀ s ∈ ss, s.size ≤ maxLen) := fun s hs => by have := hz s hs; unfold maxLen; omega
  clear hr hz
  by_cases hs : smallB ss = true
  · have ES := Lib.hid hs
    have hso : SmallOK ss := by simpa [smallB] using hs
    have HC : Hid (∀ W, Rd W A n (strsV ss) → Calls Try.prog 89 #[.slice A n c] W (RetS 3 (intsV (cntS ss)) W)) := fun W h => l7Often_any A n c ss W h hso
    have hF := fact_6 hso.2.2
    obtain ⟨zs, hzs⟩ : ∃ z, z = cntS ss := ⟨_, rfl⟩
    have hzl : zs.length = factN (headS ss).size := by rw [hzs]; exact cntL_length _ _
    rw [← hzs] at HC
    have HZ := Lib.hid hzs
    clear hso hzs
    go_enter Try.func56, Try.ntmps56
    go_wp2_with fail
    refine (l7Small_any _ _ _ _ _ Hr.out Hz.out).mono ?_
    rintro e w' ⟨rfl, d, rfl⟩
    go_wp2_with fail
    refine (HC.out _ (Hr.out.below (below_drewN_ _ _))).mono ?_
    rintro e w1 ⟨A1, n1, c1, rfl, ho1, hb1⟩
    have hn1 : 0 < n1 := by have := ho1.rd.ilen; omega
    have hn7 : n1 ≤ 720 := by have := ho1.rd.ilen; omega
    have HRd := Lib.hid ho1.rd
    have HL := Lib.hid ho1.rd.ilen
    have HB : Hid (Below W.heap.size W w1) := (below_drewN' (Below.refl _ _) _ : Below W.heap.size W _).trans hb1
    clear ho1 hb1 hF hzl
    go_wp2
    go_loop [14] (fun i => ∃ k : Nat, i = .int .i64 k ∧ k ≤ n1 ∧ Hid (∀ j, j < k → zs.getD j 0 = zs.getD 0 0)) (fun i => n1 - (intOf i).toNat)
    case atStart => exact ⟨0, rfl, by omega, fun j hj => by omega⟩
    case round =>
      obtain ⟨k, rfl, hk, HK⟩ := hrel
      by_cases hkn : k < n1
      · have i1 : (k : Int) < (n1 : Int) := by omega
        have i2 : (0 : Int) < (n1 : Int) := by omega
        obtain ⟨b, off, rfl, hbs, hcs⟩ := HRd.out.intD hkn
        have hc0 : w1.cell? ⟨b, off, none⟩ = some (.int .i64 (zs.getD 0 0)) := hcs 0 (by omega)
        have hck := hcs k hkn
        obtain ⟨z0, hz0⟩ : ∃ z, z = zs.getD 0 0 := ⟨_, rfl⟩
        obtain ⟨z, hz⟩ : ∃ z, z = zs.getD k 0 := ⟨_, rfl⟩
        rw [← hz0] at hc0
        rw [← hz] at hck
        have Hz0 := Lib.hid hz0
        have Hz1 := Lib.hid hz
        clear hcs hz0 hz
        by_cases he : z = z0
        · have hee : (z != z0) = false := by simp [he]
          have HK2 : Hid (∀ j, j < k + 1 → zs.getD j 0 = zs.getD 0 0) := fun j hj => by
            by_cases e : j = k
            · subst e; rw [← Hz1.out, ← Hz0.out]; exact he
            · exact HK.out j (by omega)
          clear he
          go_wp2
          go_round
          case rel => exact ⟨k + 1, by go_num, by omega, HK2.out⟩
          case measure => (simp [intOf] <;> omega)
        · have hee : (z != z0) = true := by simp [he]
          have E : Hid (out_IL ss = false) := by
            unfold Hid out_IL
            rw [← HZ.out, show levelB zs = false from decide_eq_false fun h => he (by rw [Hz1.out, Hz0.out]; exact h k (by have := HL.out; omega)), Bool.and_false]
          clear he
          go_wp2
          go_ret2
          exact ⟨ret_bb E.out (by first | exact ES.out | rfl), HB.out⟩
      · have hge : (n1 : Int) ≤ (k : Int) := by omega
        have E : Hid (out_IL ss = true) := by
          unfold Hid out_IL
          rw [← HZ.out, ES.out, show levelB zs = true from decide_eq_true fun j hj => HK.out j (by have := HL.out; omega)]; rfl
        clear hkn
        go_wp2
        go_ret2
        exact ⟨ret_bb E.out (by first | exact ES.out | rfl), HB.out⟩
  · have hs' : smallB ss = false := by simpa using hs
    have E : Hid (out_IL ss = false) := by unfold Hid out_IL; rw [hs']; rfl
    have ES := Lib.hid hs'
    clear hs
    go_enter Try.func56, Try.ntmps56
    go_wp2_with fail
    refine (l7Small_any _ _ _ _ _ Hr.out Hz.out).mono ?_
    rintro e w' ⟨rfl, d, rfl⟩
    go_wp2
    go_ret2
    exact ⟨ret_bb E.out (by first | exact ES.out | rfl), (below_drewN' (Below.refl _ _) _ : Below W.heap.size W _)⟩
set_option maxRecDepth 100000 in
set_option maxHeartbeats 1000000 in
theorem im_IsLevel (A : Option Addr) (n c : Nat) (ss : List ByteArray) (W : World) (hr : Rd W A n (strsV ss)) (hz : ∀ s ∈ ss, s.size ≤ 1048576) (hl : ss.length ≤ 1048576) :
    Calls Try.prog 57 #[.slice A n c] W fun e w' => e = .returned (.tuple #[.bool (out_IL ss), .bool (smallB ss)]) ∧ Below W.heap.size W w' := by
  have Hr := Lib.hid hr
  have Hz : Hid (∀ s ∈ ss, s.size ≤ maxLen) := fun s hs => by have := hz s hs; unfold maxLen; omega
  clear hr hz
  by_cases hs : smallB ss = true
  · have ES := Lib.hid hs
    have hso : SmallOK ss := by simpa [smallB] using hs
    have HC : Hid (∀ W, Rd W A n (strsV ss) → Calls Try.prog 91 #[.slice A n c] W (RetS 3 (intsV (cntS ss)) W)) := fun W h => counts_any A n c ss W h hso
    have hF := fact_6 hso.2.2
    obtain ⟨zs, hzs⟩ : ∃ z, z = cntS ss := ⟨_, rfl⟩
    have hzl : zs.length = factN (headS ss).size := by rw [hzs]; exact cntL_length _ _
    rw [← hzs] at HC
    have HZ := Lib.hid hzs
    clear hso hzs
    go_enter Try.func57, Try.ntmps57
    go_wp2_with fail
    refine (countable_any _ _ _ _ _ Hr.out Hz.out).mono ?_
    rintro e w' ⟨rfl, rfl⟩
    go_wp2_with fail
    refine (HC.out _ (Hr.out)).mono ?_
    rintro e w1 ⟨A1, n1, c1, rfl, ho1, hb1⟩
    have hn1 : 0 < n1 := by have := ho1.rd.ilen; omega
    have hn7 : n1 ≤ 720 := by have := ho1.rd.ilen; omega
    have HRd := Lib.hid ho1.rd
    have HL := Lib.hid ho1.rd.ilen
    have HB : Hid (Below W.heap.size W w1) := (Below.refl _ _ : Below W.heap.size W W).trans hb1
    clear ho1 hb1 hF hzl
    have HMi := Lib.hid (Min_any A1 n1 c1 zs w1 (by omega) hn1 HRd.out)
    have HMa := Lib.hid (Max_any A1 n1 c1 zs w1 (by omega) hn1 HRd.out)
    go_wp2_with fail
    refine (HMi.out).mono ?_
    rintro e w' ⟨a, rfl, rfl, ha, hla⟩
    go_wp2_with fail
    refine (HMa.out).mono ?_
    rintro e w' ⟨b, rfl, rfl, hb, hlb⟩
    have E : Hid (out_IL ss = (a == b)) := by
      unfold Hid out_IL
      rw [← HZ.out, ES.out, Bool.true_and, level_minmax (by have := HL.out; omega) ha hb hla hlb]
    clear ha hla hb hlb
    go_wp2
    go_ret2
    exact ⟨ret_bb E.out (by first | exact ES.out | rfl), HB.out⟩
  · have hs' : smallB ss = false := by simpa using hs
    have E : Hid (out_IL ss = false) := by unfold Hid out_IL; rw [hs']; rfl
    have ES := Lib.hid hs'
    clear hs
    go_enter Try.func57, Try.ntmps57
    go_wp2_with fail
    refine (countable_any _ _ _ _ _ Hr.out Hz.out).mono ?_
    rintro e w' ⟨rfl, rfl⟩
    go_wp2
    go_ret2
    exact ⟨ret_bb E.out (by first | exact ES.out | rfl), (Below.refl _ _ : Below W.heap.size W W)⟩
end Go.Proofs.Ytllbakbhdfoadaa
