/- CyclesOf, of the reference and of the program: what each returns. -/
import Derived.Test.YtgpjbmlemnjhfaaPlainCy
import Derived.Test.YtgpjbmlemnjhfaaWalkB
import Derived.Test.YtgpjbmlemnjhfaaNest
import Derived.Test.YtgpjbmlemnjhfaaWalkBo
namespace Go.Proofs.Ytgpjbmlemnjhfaa
open Go.RowKit
set_option linter.unusedVariables false

noncomputable def cyZ (l : List UInt8) (k : Nat) : List (List Int) := (cyO l k).map natI
noncomputable def out_CyclesOf (a : ByteArray) : List (List Int) := if rowB a = true then cyZ (bs a) a.size else []
def ok_CyclesOf (a : ByteArray) : Bool := rowB a
theorem tot_app : ∀ (a b : List (List Int)), tot (a ++ b) = tot a + tot b
  | [], b => by simp [tot]
  | z :: t, b => by simp only [List.cons_append, tot, tot_app t b]; omega
theorem cyZ_succ (l : List UInt8) (k : Nat) : cyZ l (k + 1) = if 1 < cyN l k then cyZ l k ++ [natI (cyL l (k + 1) (cyN l k))] else cyZ l k := by
  unfold cyZ
  simp only [cyO]
  split <;> simp
theorem cyZ_len (l : List UInt8) (k : Nat) : (cyZ l k).length ≤ k := by unfold cyZ; rw [List.length_map]; exact cyO_len l k
theorem cyZ_tot {l : List UInt8} (h : IsRow l) : ∀ k, k ≤ l.length → tot (cyZ l k) ≤ k * 8
  | 0, _ => by simp [cyZ, cyO, tot]
  | k + 1, hk => by
    have := cyZ_tot h k (by omega)
    have h2 := cyN_le h (i := k) (by omega)
    have h8 := h.2.1
    rw [cyZ_succ]
    split
    · rw [tot_app]; simp only [tot]; rw [natI_len, cyL_len]; omega
    · omega
theorem len_CyclesOf (a : ByteArray) : tot (out_CyclesOf a) ≤ 4194304 := by
  unfold out_CyclesOf
  split
  · rename_i h
    have hr : IsRow (bs a) := by simpa [rowB] using h
    have h1 := cyZ_tot hr a.size (by rw [size_bs]; omega)
    have h8 := hr.2.1
    rw [size_bs] at h8
    omega
  · simp [tot]
def lenC : Value → Nat | .slice _ n _ => n | _ => 0
theorem goL_at (l : List UInt8) (x : Nat) : goL l x - 1 = dig (l.getD (x - 1) 0) := by unfold goL; omega
theorem info_ints : (Try.prog.info? 50).map (fun i => (i.zero, i.size, i.bytes)) = some (some (.slice none 0 0), 1, 24) := by kernel_rfl
/-- rows that no other block's turning touches -/
def OffR (rs : List Row) (g : Nat) : Prop := ∀ (i : Nat) (r : Row), rs[i]? = some r → (rowV r).ownBlock ≠ some g
theorem OffR.nil (g : Nat) : OffR [] g := fun i r h => by simp at h
theorem OffR.push {rs : List Row} {g : Nat} {r : Row} (h : OffR rs g) (h2 : (rowV r).ownBlock ≠ some g) : OffR (rs ++ [r]) g := fun i s hs => by
  rcases snoc_get hs with h3 | ⟨_, rfl⟩
  · exact h i s h3
  · exact h2
theorem OwnR.wx {w w' : World} {lo hi n c : Nat} {A : Option Addr} {rs : List Row} {zss : List (List Int)} {g : Nat} (h : OwnR w lo hi A n c rs zss) (hx : Wx (some g) w w') (h1 : Off A n c g) (h2 : OffR rs g) : OwnR w' lo hi A n c rs zss :=
  ⟨hx.own h.o fun k hk e => h1 k hk (by injection e), h.len, fun i r z a b => hx.own (h.row i r z a b) fun k hk e => h2 i r a ((show (rowV r).ownBlock = some k from hk).trans e), h.far, h.apart⟩
theorem Own.wxhi {w w' : World} {E : TypeId} {lo hi n c : Nat} {A : Option Addr} {xs : List Value} {row : Option Nat} (h : Own w E lo hi A n c xs) (hx : Wx row w w') (hr : ∀ q, row = some q → hi ≤ q) : Own w' E lo hi A n c xs :=
  hx.own h fun k hk e => by have a := (h.lt k hk).2.1; have b := hr k e.symm; omega
theorem OwnR.wxhi {w w' : World} {lo hi n c : Nat} {A : Option Addr} {rs : List Row} {zss : List (List Int)} {row : Option Nat} (h : OwnR w lo hi A n c rs zss) (hx : Wx row w w') (hr : ∀ q, row = some q → hi ≤ q) : OwnR w' lo hi A n c rs zss :=
  ⟨h.o.wxhi hx hr, h.len, fun i r z a b => (h.row i r z a b).wxhi hx hr, h.far, h.apart⟩
theorem OwnR.wxo {w w' : World} {lo hi n c : Nat} {A : Option Addr} {rs : List Row} {zss : List (List Int)} {row : Option Nat} (h : OwnR w lo hi A n c rs zss) (hx : Wx row w w') (h2 : ∀ q, row = some q → Off A n c q ∧ OffR rs q) : OwnR w' lo hi A n c rs zss :=
  ⟨hx.own h.o fun k hk e => (h2 k e.symm).1 k hk rfl, h.len, fun i r z a b => hx.own (h.row i r z a b) fun k hk e => (h2 k e.symm).2 i r a hk, h.far, h.apart⟩
set_option maxRecDepth 100000 in
set_option maxHeartbeats 1000000 in
theorem l1Has_any (A : Option Addr) (n c : Nat) (zs : List Nat) (x : Nat) (w : World) (hn : n ≤ 4194304) (hr : Rd w A n (intsV (natI zs))) :
    Calls Try.prog 41 #[.slice A n c, .int .i64 (x : Int)] w fun e w' => e = .returned (.bool (decide (x ∈ zs))) ∧ w = w' := by
  have hl : zs.length = n := by have := hr.ilen; rwa [natI_len] at this
  have Hl := Lib.hid hl
  have Hr := Lib.hid hr
  clear hr hl
  go_enter Try.func41, Try.ntmps41
  go_wp2
  go_loop [9] (fun i => ∃ k : Nat, k ≤ n ∧ i = .int .i64 k ∧ Hid (x ∉ zs.take k)) (fun i => n - (intOf i).toNat)
  case atStart => exact ⟨0, by omega, rfl, by simp [Hid]⟩
  case round =>
    obtain ⟨k, hk, rfl, HT⟩ := hrel
    by_cases hlt : k < n
    · obtain ⟨b, off, rfl, _, hc⟩ := Hr.out.int hlt
      have hkl : k < zs.length := by have := Hl.out; omega
      have e1 : (natI zs)[k]'(by rw [natI_len]; exact hkl) = ((zs[k] : Nat) : Int) := by simp [natI]
      rw [e1] at hc
      have HM : Hid (zs[k] = x → x ∈ zs) := fun e => e ▸ List.getElem_mem hkl
      have HS : Hid (zs[k] ≠ x → x ∉ zs.take (k + 1)) := fun e => by
        rw [List.take_succ_eq_append_getElem hkl]
        intro hm
        rcases List.mem_append.1 hm with h | h
        · exact HT.out h
        · simp only [List.mem_singleton] at h; exact e h.symm
      obtain ⟨y, hy⟩ : ∃ y, y = zs[k] := ⟨_, rfl⟩
      rw [← hy] at hc HM HS
      have i1 : (k : Int) < (n : Int) := by omega
      clear hy e1
      by_cases he : y = x
      · have E : Hid (decide (x ∈ zs) = true) := decide_eq_true (HM.out he)
        have hq : ((y : Int) == (x : Int)) = true := by simp [he]
        clear HM HS he
        go_wp2
        go_ret
        exact ⟨ret_b E.out, rfl⟩
      · have HN := Lib.hid (HS.out he)
        have hq : ((y : Int) == (x : Int)) = false := by simp; omega
        clear HM HS he
        go_wp2
        go_round
        case rel => exact ⟨k + 1, by omega, by go_num, HN.out⟩
        case measure => simp [intOf]; omega
    · have E : Hid (decide (x ∈ zs) = false) := by
        have := HT.out
        rw [List.take_of_length_le (by have := Hl.out; omega)] at this
        exact decide_eq_false this
      go_wp2
      go_ret
      exact ⟨ret_b E.out, rfl⟩
set_option maxRecDepth 100000 in
set_option maxHeartbeats 4000000 in
theorem im_CyclesOf (a : ByteArray) (W : World) (hs : a.size ≤ 1048576) : Calls Try.prog 13 #[.string a] W (RetRB (out_CyclesOf a) (ok_CyclesOf a) W) := by
  have HG : Hid (∀ W', Calls Try.prog 43 #[.string a] W' fun e w' => e = .returned (.bool (rowB a)) ∧ W' = w') := fun W' => GoodRow_any a W' (by unfold maxLen; omega)
  have E1 : Hid (rowB a = true → out_CyclesOf a = cyZ (bs a) a.size) := fun h => by unfold out_CyclesOf; rw [if_pos h]
  have E0 : Hid (rowB a = false → out_CyclesOf a = []) := fun h => by unfold out_CyclesOf; rw [h]; simp
  have hrow : rowB a = true → IsRow (bs a) := fun h => by simpa [rowB] using h
  obtain ⟨b, hb⟩ : ∃ b, b = rowB a := ⟨_, rfl⟩
  rw [← hb] at HG hrow
  have Hb := Lib.hid hb
  clear hb
  cases b with
  | false =>
    clear hrow
    go_enter Try.func13, Try.ntmps13
    go_wp2_with (go_at_call 43; refine (HG.out _).mono ?_; rintro e w1 ⟨rfl, rfl⟩)
    go_ret2
    refine ⟨none, 0, 0, [], ret_slb (show ok_CyclesOf a = false from Hb.out.symm), ?_, Below.refl _ _⟩
    rw [E0.out Hb.out.symm]; exact OwnR.of_own (Own.nil _ _ _ _)
  | true =>
    have hR := hrow rfl
    have HR := Lib.hid hR
    have n3 : 3 ≤ a.size := by have := hR.1; rwa [size_bs] at this
    have n8 : a.size ≤ 8 := by have := hR.2.1; rwa [size_bs] at this
    clear hR hrow
    obtain ⟨N, hN⟩ : ∃ N, N = a.size := ⟨_, rfl⟩
    have HNN := Lib.hid hN
    obtain ⟨w1, hmk, hown, hbel, hlt⟩ := make_row (P := Try.prog) (W.alloc (.cells #[] 50)) 53 4 (.bool false) 1 Try.underlying53 info_bool rfl (by omega) a.size (by omega)
    have hsz1 : (W.alloc (.cells #[] 50)).heap.size = W.heap.size + 1 := by simp
    have hbel' : Below W.heap.size W w1 := (below_alloc W (.cells #[] 50)).trans (hbel.mono (by omega))
    have HO1 : Hid (OwnR w1 W.heap.size w1.heap.size (some ⟨W.heap.size, 0, none⟩) 0 0 [] []) := OwnR.of_own (((own_empty W 50).below hbel).mono (Nat.le_refl _) (by omega))
    rw [hsz1] at hown hlt
    have HS1 : Hid (Own w1 4 W.heap.size w1.heap.size (some ⟨W.heap.size + 1, 0, none⟩) a.size a.size (boolsV (cyBj (bs a) 0 0))) := by
      refine (hown.congr ?_).mono (by omega) (Nat.le_refl _)
      rw [cyBj_zero, cyB_zero, size_bs]; simp [boolsV]
    have HB1 := Lib.hid hbel'
    have HF1 : Hid (Off (some ⟨W.heap.size, 0, none⟩) 0 0 (W.heap.size + 1)) := fun q hq => by simp [Value.ownBlock] at hq; omega
    clear hown hbel hbel'
    go_enter Try.func13, Try.ntmps13
    go_wp2_with (go_at_call 43; refine (HG.out _).mono ?_; rintro e w0 ⟨rfl, rfl⟩)
    go_loopw [4, 18] (fun l i wr => ∃ (k n3 : Nat) (A3 : Option Addr) (c3 : Nat) (rs : List Row), i = .int .i64 k ∧ l = .slice A3 n3 c3 ∧ k ≤ a.size ∧ n3 ≤ k ∧ Hid (OwnR wr W.heap.size wr.heap.size A3 n3 c3 rs (cyZ (bs a) k)) ∧ Hid (Own wr 4 W.heap.size wr.heap.size (some ⟨W.heap.size + 1, 0, none⟩) a.size a.size (boolsV (cyBj (bs a) k 0))) ∧ Hid (Off A3 n3 c3 (W.heap.size + 1)) ∧ Hid (OffR rs (W.heap.size + 1)) ∧ W.heap.size + 1 < wr.heap.size ∧ Hid (Below W.heap.size W wr)) (fun _ i _ => a.size - (intOf i).toNat)
    case atStart => exact ⟨0, 0, _, _, [], rfl, rfl, by omega, by omega, HO1.out, HS1.out, HF1.out, OffR.nil _, hlt, HB1.out⟩
    case round =>
      clear HO1 HS1 HF1 HB1 hmk
      obtain ⟨k, n3, A3, c3, rs, rfl, rfl, hk, hn3, HO, HS, HF, HFR, hWr, HB⟩ := hrel
      obtain ⟨wo, rfl⟩ : ∃ w, w = wr := ⟨_, rfl⟩
      by_cases hlt2 : k < a.size
      · have HOc : Hid (Own (wo.alloc (.cells #[] 3)) 3 wo.heap.size (wo.alloc (.cells #[] 3)).heap.size (some ⟨wo.heap.size, 0, none⟩) 0 0 (intsV (natI (cyL (bs a) (k + 1) 0)))) := own_empty wo 3
        have HO2 : Hid (OwnR (wo.alloc (.cells #[] 3)) W.heap.size wo.heap.size A3 n3 c3 rs (cyZ (bs a) k)) := HO.out.below (below_alloc _ _)
        have HS2 : Hid (Own (wo.alloc (.cells #[] 3)) 4 W.heap.size wo.heap.size (some ⟨W.heap.size + 1, 0, none⟩) a.size a.size (boolsV (cyBj (bs a) k 0))) := HS.out.below (below_alloc _ _)
        have HB2 : Hid (Below W.heap.size W (wo.alloc (.cells #[] 3))) := HB.out.trans ((below_alloc wo _).mono HB.out.size)
        have hsz2 : (wo.alloc (.cells #[] 3)).heap.size = wo.heap.size + 1 := by simp
        have HR2 := HR.out
        have hkl : k < (bs a).length := by rw [size_bs]; exact hlt2
        have hit0 := it_in HR2 (x := k + 1) (by omega) (by omega) 0
        have i1 : (k : Int) < (a.size : Int) := by omega
        have HHit : Hid (∀ j, j ≤ cyN (bs a) k → (cyBj (bs a) k j)[itN (goL (bs a)) (k + 1) j - 1]? = some (!decide (j < cyN (bs a) k))) := fun j hj => cyBj_hit HR2 hkl hj
        have HSet : Hid (∀ j, (cyBj (bs a) k j).set (itN (goL (bs a)) (k + 1) j - 1) true = cyBj (bs a) k (j + 1)) := fun j => cyBj_set HR2 hkl j
        have HDone : Hid (cyBj (bs a) k (cyN (bs a) k) = cyBj (bs a) (k + 1) 0) := (cyBj_done HR2 hkl).trans (cyBj_zero _ _).symm
        have HIt : Hid (∀ j, itN (goL (bs a)) (k + 1) j - 1 < a.size ∧ 1 ≤ itN (goL (bs a)) (k + 1) j) := fun j => by
          have := it_in HR2 (x := k + 1) (by omega) (by omega) j
          rw [size_bs] at this; omega
        have HNx : Hid (∀ j (h : itN (goL (bs a)) (k + 1) j - 1 < a.size), 49 ≤ (a[itN (goL (bs a)) (k + 1) j - 1]'h).toNat ∧ ((a[itN (goL (bs a)) (k + 1) j - 1]'h).toNat : Int) - 49 = ((itN (goL (bs a)) (k + 1) (j + 1) - 1 : Nat) : Int)) := fun j h => by
          have h1 := (HR2.2.2.1 _ (get_mem a _ h)).1
          refine ⟨h1, ?_⟩
          show _ = ((goL (bs a) (itN (goL (bs a)) (k + 1) j) - 1 : Nat) : Int)
          rw [goL_at, getD_bs a _ h]
          unfold dig; omega
        have HZ := Lib.hid (cyZ_succ (bs a) k)
        have HcL := Lib.hid (cyL_succ (bs a) (k + 1))
        have hN8 : cyN (bs a) k ≤ 8 := Nat.le_trans (cyN_le HR2 hkl) HR2.2.1
        obtain ⟨K, hK⟩ : ∃ K, K = cyN (bs a) k := ⟨_, rfl⟩
        rw [← hK] at HHit HDone HZ hN8
        obtain ⟨f, hf⟩ : ∃ f, f = itN (goL (bs a)) (k + 1) := ⟨_, rfl⟩
        rw [← hf] at HHit HSet HIt HNx HcL
        have hf0 : f 0 = k + 1 := by rw [hf]; rfl
        clear HR2 hkl hit0 hK hf
        go_wp2
        go_loopw [7, 8] (fun l v wr => ∃ (j r : Nat) (A4 : Option Addr) (c4 : Nat), v = .int .i64 r ∧ l = .slice A4 j c4 ∧ j ≤ K ∧ r = f j - 1 ∧ Hid (Own wr 3 wo.heap.size wr.heap.size A4 j c4 (intsV (natI (cyL (bs a) (k + 1) j)))) ∧ Hid (OwnR wr W.heap.size wo.heap.size A3 n3 c3 rs (cyZ (bs a) k)) ∧ Hid (Own wr 4 W.heap.size wo.heap.size (some ⟨W.heap.size + 1, 0, none⟩) a.size a.size (boolsV (cyBj (bs a) k j))) ∧ wo.heap.size < wr.heap.size ∧ Hid (Below W.heap.size W wr)) (fun l _ _ => K - lenC l)
        case atStart => exact ⟨0, k, _, 0, rfl, rfl, by omega, by omega, HOc.out, HO2.out, HS2.out, by omega, HB2.out⟩
        case round =>
          clear HOc HO2 HS2 HB2 hsz2
          obtain ⟨j, r, A4, c4, rfl, rfl, hj, hr, HOc, HO2, HS2, hW2, HB2⟩ := hrel
          have HHj := HHit.out j hj
          rw [← hr] at HHj
          have hrN : r < a.size := by have := (HIt.out j).1; omega
          by_cases hjK : j < K
          · rw [decide_eq_true hjK] at HHj
            obtain ⟨hcq, hfz⟩ := HS2.out.boolAt HHj
            rw [Bool.not_true] at hcq
            have hfj : (r : Int) + 1 = (f j : Int) := by have := (HIt.out j).2; omega
            obtain ⟨r2, hr2⟩ : ∃ r2, r2 = f (j + 1) - 1 := ⟨_, rfl⟩
            have hb : 49 ≤ a[r].toNat ∧ (a[r].toNat : Int) - 49 = (r2 : Int) := by
              have h3 := HNx.out j (by rw [← hr]; exact hrN)
              rw [← hr2] at h3
              subst hr
              exact h3
            have hx := wx_set wr (W.heap.size + 1) r (.bool true)
            have HSn : Hid (Own (wr.setCell ⟨W.heap.size + 1, r, none⟩ (.bool true)) 4 W.heap.size wo.heap.size (some ⟨W.heap.size + 1, 0, none⟩) a.size a.size (boolsV (cyBj (bs a) k (j + 1)))) := by
              have h3 := HS2.out.set_ r (.bool true)
              rw [boolsV_set] at h3
              unfold Hid
              rw [← HSet.out j, ← hr]; exact h3
            have HOn : Hid (OwnR (wr.setCell ⟨W.heap.size + 1, r, none⟩ (.bool true)) W.heap.size wo.heap.size A3 n3 c3 rs (cyZ (bs a) k)) := HO2.out.wx hx HF.out HFR.out
            have HCn : Own (wr.setCell ⟨W.heap.size + 1, r, none⟩ (.bool true)) 3 wo.heap.size (wr.setCell ⟨W.heap.size + 1, r, none⟩ (.bool true)).heap.size A4 j c4 (intsV (natI (cyL (bs a) (k + 1) j))) := (hx.own HOc.out (fun q hq e => by have h3 := (HOc.out.lt q hq).1; injection e with e; omega)).mono (Nat.le_refl _) (by simp)
            have HBn : Below W.heap.size W (wr.setCell ⟨W.heap.size + 1, r, none⟩ (.bool true)) := HB2.out.setCell (show W.heap.size ≤ W.heap.size + 1 by omega) _
            have hszn : (wr.setCell ⟨W.heap.size + 1, r, none⟩ (.bool true)).heap.size = wr.heap.size := by simp
            have i2 : (r : Int) < (a.size : Int) := by omega
            have b1 : 49 ≤ (a[r].toNat : Int) := by omega
            have b2 : (a[r].toNat : Int) ≤ 255 := by have := UInt8.toNat_lt a[r]; omega
            have Hb2 := Lib.hid hb.2
            have Hfj := Lib.hid hfj
            have Hr2 := Lib.hid hr2
            clear HHj hb hfj hr hr2 hx HSet
            go_wp2_with (at_builtin; refine wpList_append1y (wr.setCell ⟨W.heap.size + 1, r, none⟩ (.bool true)) rfl (.tmp 36) (.tmp 39) 50 rfl 3 (.int .i64 0) 8 Try.underlying50 info_int rfl wo.heap.size A4 j c4 _ (.int .i64 ((r : Int) + 1)) rfl wr.heap.size (by simp) rfl rfl HCn (by omega) (by omega) (by omega) ?_; intro A5 c5 w5 ho5 hx5 hsz5 hat5)
            have hrow : ∀ q, (Value.slice A4 j c4).ownBlock = some q → wo.heap.size ≤ q := fun q hq => (HCn.lt q hq).1
            have HO5 : Hid (OwnR w5 W.heap.size wo.heap.size A3 n3 c3 rs (cyZ (bs a) k)) := HOn.out.wxhi hx5 hrow
            have HS5 : Hid (Own w5 4 W.heap.size wo.heap.size (some ⟨W.heap.size + 1, 0, none⟩) a.size a.size (boolsV (cyBj (bs a) k (j + 1)))) := HSn.out.wxhi hx5 hrow
            have HC5 : Hid (Own w5 3 wo.heap.size w5.heap.size A5 (j + 1) c5 (intsV (natI (cyL (bs a) (k + 1) (j + 1))))) := ho5.congr (by rw [HcL.out, natI_app, intsV_app]; rw [Hfj.out]; rfl)
            have HB5 : Hid (Below W.heap.size W w5) := HBn.trans ((HCn.below_ hx5 (by omega)).mono HB.out.size)
            have hW5 : wo.heap.size < w5.heap.size := by omega
            clear HCn HBn hrow ho5 hx5 hat5 hszn hsz5
            go_roundw
            case rel => exact ⟨j + 1, r2, A5, c5, val_i Hb2.out, rfl, by omega, Hr2.out, HC5.out, HO5.out, HS5.out, hW5, HB5.out⟩
            case measure => (simp [lenC] <;> omega)
          · obtain rfl : j = K := by omega
            rw [decide_eq_false hjK] at HHj
            obtain ⟨hcq, hfz⟩ := HS2.out.boolAt HHj
            rw [Bool.not_false] at hcq
            have i2 : (r : Int) < (a.size : Int) := by omega
            have HSd : Hid (Own wr 4 W.heap.size wo.heap.size (some ⟨W.heap.size + 1, 0, none⟩) a.size a.size (boolsV (cyBj (bs a) (k + 1) 0))) := by
              unfold Hid; rw [← HDone.out]; exact HS2.out
            clear HHj hr hjK HSet HHit HNx
            by_cases h1K : 1 < j
            · have i3 : (1 : Int) < (j : Int) := by omega
              have HO3 : Own wr 50 W.heap.size wr.heap.size A3 n3 c3 (rowsV rs) := HO2.out.o.mono (Nat.le_refl _) (by omega)
              have hs2 : W.heap.size ≤ wr.heap.size := HB2.out.size
              go_wp2_with (at_builtin; refine wpList_append1x wr rfl (.tmp 44) (.tmp 46) 22 rfl 50 (.slice none 0 0) 24 Try.underlying22 info_ints rfl W.heap.size A3 n3 c3 _ (.slice A4 j c4) rfl rfl rfl HO3 (by omega) (by omega) hs2 ?_; intro A5 c5 w5 ho5 hx5 hsz5 hat5)
              have HO5 : Hid (OwnR w5 W.heap.size w5.heap.size A5 (n3 + 1) c5 (rs ++ [(A4, j, c4)]) (cyZ (bs a) (k + 1))) := by
                unfold Hid; rw [HZ.out, if_pos h1K]
                exact (HO2.out.mono (Nat.le_refl _) (by omega)).push (r := (A4, j, c4)) (l2 := wo.heap.size) HOc.out HB.out.size (fun i s g a b => (HO2.out.rowlt i s g a b).2.1) (fun g hg => (HO2.out.o.lt g hg).2.1) ho5 hx5 hat5
              have HS5 : Hid (Own w5 4 W.heap.size w5.heap.size (some ⟨W.heap.size + 1, 0, none⟩) a.size a.size (boolsV (cyBj (bs a) (k + 1) 0))) := (hx5.own HSd.out (fun g hg => by
                have hg2 : W.heap.size + 1 = g := by simpa [Value.ownBlock] using hg
                subst hg2; exact HF.out.ne)).mono (Nat.le_refl _) (by omega)
              have HF5 : Hid (Off A5 (n3 + 1) c5 (W.heap.size + 1)) := HF.out.next (by omega) hat5
              have HR5 : Hid (OffR (rs ++ [(A4, j, c4)]) (W.heap.size + 1)) := HFR.out.push fun e => by have h3 := (HOc.out.lt _ e).1; omega
              have HB5 : Hid (Below W.heap.size W w5) := HB2.out.trans (HO3.below_ hx5 hs2)
              have hW5 : W.heap.size + 1 < w5.heap.size := by omega
              clear HO3 ho5 hx5 hat5 hsz5
              go_roundw
              case rel => exact ⟨k + 1, n3 + 1, A5, c5, _, by go_num, rfl, by omega, by omega, HO5.out, HS5.out, HF5.out, HR5.out, hW5, HB5.out⟩
              case measure => (simp [intOf] <;> omega)
            · have i3 : (j : Int) ≤ 1 := by omega
              have HO5 : Hid (OwnR wr W.heap.size wr.heap.size A3 n3 c3 rs (cyZ (bs a) (k + 1))) := by
                unfold Hid; rw [HZ.out, if_neg h1K]
                exact HO2.out.mono (Nat.le_refl _) (by omega)
              have HS5 := Lib.hid (HSd.out.mono (Nat.le_refl _) (show wo.heap.size ≤ wr.heap.size by omega))
              have hW5 : W.heap.size + 1 < wr.heap.size := by omega
              go_wp2
              go_roundw
              case rel => exact ⟨k + 1, n3, A3, c3, rs, by go_num, rfl, by omega, by omega, HO5.out, HS5.out, HF.out, HFR.out, hW5, HB2.out⟩
              case measure => (simp [intOf] <;> omega)
      · obtain rfl : k = a.size := by omega
        go_wp2
        go_ret2
        refine ⟨_, _, _, rs, ret_slb (show ok_CyclesOf a = true from Hb.out.symm), ?_, HB.out⟩
        rw [E1.out Hb.out.symm]; exact HO.out
set_option maxRecDepth 100000 in
set_option maxHeartbeats 4000000 in
theorem sp_CyclesOf (a : ByteArray) (W : World) (hs : a.size ≤ 1048576) : Calls Try.prog 12 #[.string a] W (RetRB (out_CyclesOf a) (ok_CyclesOf a) W) := by
  have HG : Hid (∀ W', Calls Try.prog 40 #[.string a] W' fun e w' => e = .returned (.bool (rowB a)) ∧ ∃ d, w' = W'.drewN d) := fun W' => l1Row_any a W' (by unfold maxLen; omega)
  have E1 : Hid (rowB a = true → out_CyclesOf a = cyZ (bs a) a.size) := fun h => by unfold out_CyclesOf; rw [if_pos h]
  have E0 : Hid (rowB a = false → out_CyclesOf a = []) := fun h => by unfold out_CyclesOf; rw [h]; simp
  have hrow : rowB a = true → IsRow (bs a) := fun h => by simpa [rowB] using h
  obtain ⟨b, hb⟩ : ∃ b, b = rowB a := ⟨_, rfl⟩
  rw [← hb] at HG hrow
  have Hb := Lib.hid hb
  clear hb
  cases b with
  | false =>
    clear hrow
    go_enter Try.func12, Try.ntmps12
    go_wp2_with (go_at_call 40; refine (HG.out _).mono ?_; rintro e w0 ⟨rfl, d, rfl⟩)
    go_ret2
    refine ⟨none, 0, 0, [], ret_slb (show ok_CyclesOf a = false from Hb.out.symm), ?_, below_drewN' (Below.refl _ _) _⟩
    rw [E0.out Hb.out.symm]; exact OwnR.of_own (Own.nil _ _ _ _)
  | true =>
    have hR := hrow rfl
    have HR := Lib.hid hR
    have n3 : 3 ≤ a.size := by have := hR.1; rwa [size_bs] at this
    have n8 : a.size ≤ 8 := by have := hR.2.1; rwa [size_bs] at this
    have HAt : Hid (∀ (x : Nat) (w : World), 1 ≤ x → x ≤ a.size → Calls Try.prog 42 #[.string a, .int .i64 (x : Int)] w fun e w' => e = .returned (.int .i64 ((goL (bs a) x : Nat) : Int)) ∧ w = w') := fun x w h1 h2 => by
      have hk : x - 1 < a.size := by omega
      have h3 := (hR.2.2.1 _ (get_mem a _ hk)).1
      have h4 := l1At_any a (x : Int) (x - 1) w (by omega) hk n8 h3
      have h5 : ((goL (bs a) x : Nat) : Int) = ((dig (a[x - 1]'hk) : Nat) : Int) + 1 := by
        unfold goL; rw [getD_bs a _ hk]; omega
      rw [h5]; exact h4
    clear hR hrow
    go_enter Try.func12, Try.ntmps12
    go_wp2_with (go_at_call 40; refine (HG.out _).mono ?_; rintro e w0 ⟨rfl, d, rfl⟩)
    go_loopw [4, 5, 6] (fun l sv i wr => ∃ (k n3 : Nat) (A3 : Option Addr) (c3 : Nat) (rs : List Row) (m : Nat) (As : Option Addr) (cs : Nat), i = .int .i64 ((k : Int) + 1) ∧ l = .slice A3 n3 c3 ∧ sv = .slice As m cs ∧ k ≤ a.size ∧ n3 ≤ k ∧ m ≤ k * 8 ∧ Hid (OwnR wr W.heap.size wr.heap.size A3 n3 c3 rs (cyZ (bs a) k)) ∧ Hid (Own wr 3 W.heap.size wr.heap.size As m cs (intsV (natI (cyS (bs a) k)))) ∧ Hid (∀ q, (Value.slice As m cs).ownBlock = some q → Off A3 n3 c3 q ∧ OffR rs q) ∧ Hid (Below W.heap.size W wr)) (fun _ _ i _ => a.size + 1 - (intOf i).toNat)
    case atStart => exact ⟨0, 0, none, 0, [], 0, none, 0, rfl, rfl, rfl, by omega, by omega, by omega, OwnR.of_own (Own.nil _ _ _ _), Own.nil _ _ _ _, fun q hq => by simp [Value.ownBlock] at hq, below_drewN' (Below.refl _ _) _⟩
    case round =>
      obtain ⟨k, n3, A3, c3, rs, m, As, cs, rfl, rfl, rfl, hk, hn3, hm, HO, HS, HF, HB⟩ := hrel
      obtain ⟨wo, rfl⟩ : ∃ w, w = wr := ⟨_, rfl⟩
      by_cases hlt2 : k < a.size
      · have HR2 := HR.out
        have hkl : k < (bs a).length := by rw [size_bs]; exact hlt2
        have i1 : (k : Int) + 1 ≤ (a.size : Int) := by omega
        have HH1 : Hid (Calls Try.prog 41 #[.slice As m cs, .int .i64 ((k : Int) + 1)] wo fun e w' => e = .returned (.bool (decide ((k + 1) ∈ cyS (bs a) k))) ∧ wo = w') := l1Has_any As m cs (cyS (bs a) k) (k + 1) wo (by omega) HS.out.rd
        have HA1 : Hid (Calls Try.prog 42 #[.string a, .int .i64 ((k : Int) + 1)] wo fun e w' => e = .returned (.int .i64 ((goL (bs a) (k + 1) : Nat) : Int)) ∧ wo = w') := HAt.out (k + 1) wo (by omega) (by omega)
        have hskip := cyN_skip HR2 hkl
        have hN8 : cyN (bs a) k ≤ 8 := Nat.le_trans (cyN_le HR2 hkl) HR2.2.1
        have HZ := Lib.hid (cyZ_succ (bs a) k)
        have HZS := Lib.hid (cyS_succ (bs a) k)
        have HHit : Hid (1 < cyN (bs a) k → ∀ j, j ≤ cyN (bs a) k → decide (itN (goL (bs a)) (k + 1) j ∈ cyL (bs a) (k + 1) j) = decide (j = cyN (bs a) k)) := fun h1 j hj => decide_eq_decide.2 (cyL_hit HR2 hkl h1 hj)
        have HIt : Hid (∀ j, 1 ≤ itN (goL (bs a)) (k + 1) j ∧ itN (goL (bs a)) (k + 1) j ≤ a.size) := fun j => by
          have := it_in HR2 (x := k + 1) (by omega) (by omega) j
          rwa [size_bs] at this
        have HcL := Lib.hid (cyL_succ (bs a) (k + 1))
        obtain ⟨K, hK⟩ : ∃ K, K = cyN (bs a) k := ⟨_, rfl⟩
        rw [← hK] at hskip hN8 HZ HZS HHit
        have hws : W.heap.size ≤ wo.heap.size := HB.out.size
        by_cases hin : (k + 1) ∈ cyS (bs a) k
        · have h1K : ¬ 1 < K := hskip.1 (.inl hin)
          have HO5 : Hid (OwnR wo W.heap.size wo.heap.size A3 n3 c3 rs (cyZ (bs a) (k + 1))) := by
            unfold Hid; rw [HZ.out, if_neg h1K]; exact HO.out
          have HS5 : Hid (Own wo 3 W.heap.size wo.heap.size As m cs (intsV (natI (cyS (bs a) (k + 1))))) := by
            unfold Hid; rw [HZS.out, if_neg h1K]; exact HS.out
          rw [decide_eq_true hin] at HH1
          clear HR2 hkl hskip hK hin h1K HA1
          go_wp2_with (go_at_call 41; refine HH1.out.mono ?_; rintro e w5 ⟨rfl, rfl⟩)
          go_roundw
          case rel => exact ⟨k + 1, n3, A3, c3, rs, m, As, cs, by go_num, rfl, rfl, by omega, by omega, by omega, HO5.out, HS5.out, HF.out, HB.out⟩
          case measure => (simp [intOf] <;> omega)
        · rw [decide_eq_false hin] at HH1
          by_cases hfx : goL (bs a) (k + 1) = k + 1
          · have h1K : ¬ 1 < K := hskip.1 (.inr hfx)
            have HO5 : Hid (OwnR wo W.heap.size wo.heap.size A3 n3 c3 rs (cyZ (bs a) (k + 1))) := by
              unfold Hid; rw [HZ.out, if_neg h1K]; exact HO.out
            have HS5 : Hid (Own wo 3 W.heap.size wo.heap.size As m cs (intsV (natI (cyS (bs a) (k + 1))))) := by
              unfold Hid; rw [HZS.out, if_neg h1K]; exact HS.out
            obtain ⟨y, hy⟩ : ∃ y, y = goL (bs a) (k + 1) := ⟨_, rfl⟩
            rw [← hy] at HA1 hfx
            have hq : ((y : Int) == (k : Int) + 1) = true := by simp; omega
            clear HR2 hkl hskip hK hin h1K hy hfx
            go_wp2_with first
              | (go_at_call 41; refine HH1.out.mono ?_; rintro e w5 ⟨rfl, rfl⟩)
              | (go_at_call 42; refine HA1.out.mono ?_; rintro e w6 ⟨rfl, rfl⟩)
            go_roundw
            case rel => exact ⟨k + 1, n3, A3, c3, rs, m, As, cs, by go_num, rfl, rfl, by omega, by omega, by omega, HO5.out, HS5.out, HF.out, HB.out⟩
            case measure => (simp [intOf] <;> omega)
          · have h1K : 1 < K := by
              refine Classical.byContradiction fun hc => ?_
              rcases hskip.2 hc with h | h
              · exact hin h
              · exact hfx h
            have hHit := HHit.out h1K
            obtain ⟨y, hy⟩ : ∃ y, y = goL (bs a) (k + 1) := ⟨_, rfl⟩
            rw [← hy] at HA1 hfx
            have hq : ((y : Int) == (k : Int) + 1) = false := by simp; omega
            obtain ⟨f, hf⟩ : ∃ f, f = itN (goL (bs a)) (k + 1) := ⟨_, rfl⟩
            have hfs : ∀ j, f (j + 1) = goL (bs a) (f j) := fun j => by rw [hf]; rfl
            rw [← hf] at HIt HcL hHit
            have hf0 : f 0 = k + 1 := by rw [hf]; rfl
            have HHt := Lib.hid hHit
            have HFs := Lib.hid hfs
            have HF0 := Lib.hid hf0
            clear HR2 hkl hskip hK hin hy hfx HHit hHit hf hfs hf0
            go_wp2_with first
              | (go_at_call 41; refine HH1.out.mono ?_; rintro e w5 ⟨rfl, rfl⟩)
              | (go_at_call 42; refine HA1.out.mono ?_; rintro e w6 ⟨rfl, rfl⟩)
            go_loopw [7, 8] (fun l v wr => ∃ (j r : Nat) (A4 : Option Addr) (c4 : Nat), v = .int .i64 r ∧ l = .slice A4 j c4 ∧ j ≤ K ∧ r = f j ∧ Hid (Own wr 3 wo.heap.size wr.heap.size A4 j c4 (intsV (natI (cyL (bs a) (k + 1) j)))) ∧ Hid (OwnR wr W.heap.size wo.heap.size A3 n3 c3 rs (cyZ (bs a) k)) ∧ Hid (Own wr 3 W.heap.size wo.heap.size As m cs (intsV (natI (cyS (bs a) k)))) ∧ wo.heap.size ≤ wr.heap.size ∧ Hid (Below W.heap.size W wr)) (fun l _ _ => K - lenC l)
            case atStart => exact ⟨0, k + 1, none, 0, val_i (by omega), rfl, by omega, HF0.out.symm, Own.nil _ _ _ _, HO.out, HS.out, Nat.le_refl _, HB.out⟩
            case round =>
              obtain ⟨j, r, A4, c4, rfl, rfl, hj, hr, HOc, HO2, HS2, hW2, HB2⟩ := hrel
              have hri := HIt.out j
              rw [← hr] at hri
              have HHc : Hid (Calls Try.prog 41 #[.slice A4 j c4, .int .i64 (r : Int)] wr fun e w' => e = .returned (.bool (decide (j = K))) ∧ wr = w') := by
                have h3 := l1Has_any A4 j c4 (cyL (bs a) (k + 1) j) r wr (by omega) HOc.out.rd
                rw [hr, HHt.out j hj, ← hr] at h3
                exact h3
              by_cases hjK : j < K
              · rw [decide_eq_false (show ¬ j = K by omega)] at HHc
                have HAr : Hid (∀ w, Calls Try.prog 42 #[.string a, .int .i64 (r : Int)] w fun e w' => e = .returned (.int .i64 ((f (j + 1) : Nat) : Int)) ∧ w = w') := fun w => by
                  rw [HFs.out j, ← hr]; exact HAt.out r w hri.1 hri.2
                have HcR : Hid (cyL (bs a) (k + 1) (j + 1) = cyL (bs a) (k + 1) j ++ [r]) := by unfold Hid; rw [HcL.out j, hr]
                have hws2 : W.heap.size ≤ wr.heap.size := HB2.out.size
                clear hr hri
                go_wp2_with first
                  | (go_at_call 41; refine HHc.out.mono ?_; rintro e w5 ⟨rfl, rfl⟩)
                  | (at_builtin; refine wpList_append1x wr rfl (.tmp 36) (.tmp 38) 50 rfl 3 (.int .i64 0) 8 Try.underlying50 info_int rfl wo.heap.size A4 j c4 _ (.int .i64 (r : Int)) rfl rfl rfl HOc.out (by omega) (by omega) hW2 ?_; intro A5 c5 x5 ho5 hx5 hsz5 hat5)
                  | (go_at_call 42; refine (HAr.out _).mono ?_; rintro e w6 ⟨rfl, rfl⟩)
                have hrow : ∀ q, (Value.slice A4 j c4).ownBlock = some q → wo.heap.size ≤ q := fun q hq => (HOc.out.lt q hq).1
                have HO5 : Hid (OwnR x5 W.heap.size wo.heap.size A3 n3 c3 rs (cyZ (bs a) k)) := HO2.out.wxhi hx5 hrow
                have HS5 : Hid (Own x5 3 W.heap.size wo.heap.size As m cs (intsV (natI (cyS (bs a) k)))) := HS2.out.wxhi hx5 hrow
                have HC5 : Hid (Own x5 3 wo.heap.size x5.heap.size A5 (j + 1) c5 (intsV (natI (cyL (bs a) (k + 1) (j + 1))))) := ho5.congr (by rw [HcR.out, natI_app, intsV_app]; rfl)
                have HB5 : Hid (Below W.heap.size W x5) := HB2.out.trans ((HOc.out.below_ hx5 hW2).mono hws)
                have hW5 : wo.heap.size ≤ x5.heap.size := by omega
                clear hrow ho5 hx5 hat5 hsz5
                go_roundw
                case rel => exact ⟨j + 1, f (j + 1), A5, c5, rfl, rfl, by omega, rfl, HC5.out, HO5.out, HS5.out, hW5, HB5.out⟩
                case measure => (simp [lenC] <;> omega)
              · obtain rfl : j = K := by omega
                rw [decide_eq_true (show j = j from rfl)] at HHc
                have hws2 : W.heap.size ≤ wr.heap.size := HB2.out.size
                have hSo : Own wr 3 W.heap.size wr.heap.size As m cs (intsV (natI (cyS (bs a) k))) := HS2.out.mono (Nat.le_refl _) hW2
                have HOo : OwnR wr W.heap.size wr.heap.size A3 n3 c3 rs (cyZ (bs a) k) := HO2.out.mono (Nat.le_refl _) hW2
                clear hr hri hjK
                go_wp2_with first
                  | (go_at_call 41; refine HHc.out.mono ?_; rintro e w5 ⟨rfl, rfl⟩)
                  | (at_builtin; refine wpList_appendNx wr rfl (.tmp 40) (.tmp 41) 50 rfl 3 (.int .i64 0) 8 Try.underlying50 info_int rfl W.heap.size As m cs _ rfl hSo A4 j c4 _ rfl HOc.out.rd.none_ HOc.out.rd (ints_one _) (by omega) (by omega) hws2 ?_; intro A5 c5 x5 ho5 hx5 hat5; have hO5 : OwnR x5 W.heap.size x5.heap.size A3 n3 c3 rs (cyZ (bs a) k) := (HOo.wxo hx5 HF.out).mono (Nat.le_refl _) hx5.size)
                  | (at_builtin; refine wpList_append1x x5 rfl (.tmp 43) (.tmp 45) 22 rfl 50 (.slice none 0 0) 24 Try.underlying22 info_ints rfl W.heap.size A3 n3 c3 _ (.slice A4 j c4) rfl rfl rfl hO5.o (by omega) (by omega) (Nat.le_trans hws2 hx5.size) ?_; intro A6 c6 x6 ho6 hx6 hsz6 hat6)
                have hQ : ∀ q, (Value.slice A5 (m + j) c5).ownBlock = some q → Off A3 n3 c3 q ∧ OffR rs q ∧ (rowV (A4, j, c4)).ownBlock ≠ some q := fun q hq => by
                  rcases hat5 with e | ⟨g, e, hg⟩
                  · rw [e] at hq
                    have h3 := HF.out q hq
                    exact ⟨h3.1, h3.2, fun e2 => by have h4 := (HOc.out.lt q e2).1; have h5 := (HS2.out.lt q hq).2.1; omega⟩
                  · subst e
                    have hq2 : g = q := by simpa [Value.ownBlock] using hq
                    subst hq2
                    refine ⟨fun k2 hk2 e2 => ?_, fun i s hs e2 => ?_, fun e2 => ?_⟩
                    · have h4 := (HO2.out.o.lt k2 hk2).2.1; omega
                    · have h4 := (HO2.out.rowlt i s g hs e2).2.1; omega
                    · have h4 := (HOc.out.lt g e2).2.1; omega
                have hC5 : Own x5 3 wo.heap.size x5.heap.size A4 j c4 (intsV (natI (cyL (bs a) (k + 1) j))) := (hx5.own HOc.out (fun q hq e => by have h4 := (HOc.out.lt q hq).1; have h5 := (HS2.out.lt q e.symm).2.1; omega)).mono (Nat.le_refl _) hx5.size
                have HO6 : Hid (OwnR x6 W.heap.size x6.heap.size A6 (n3 + 1) c6 (rs ++ [(A4, j, c4)]) (cyZ (bs a) (k + 1))) := by
                  unfold Hid; rw [HZ.out, if_pos h1K]
                  exact hO5.push (r := (A4, j, c4)) (l2 := wo.heap.size) hC5 hws (fun i s g a b => (HO2.out.rowlt i s g a b).2.1) (fun g hg => (HO2.out.o.lt g hg).2.1) ho6 hx6 hat6
                have HS6 : Hid (Own x6 3 W.heap.size x6.heap.size A5 (m + j) c5 (intsV (natI (cyS (bs a) (k + 1))))) := by
                  unfold Hid; rw [HZS.out, if_pos h1K, natI_app, intsV_app]
                  exact (hx6.own ho5 (fun q hq e => (hQ q hq).1 q e.symm rfl)).mono (Nat.le_refl _) hx6.size
                have HF6 : Hid (∀ q, (Value.slice A5 (m + j) c5).ownBlock = some q → Off A6 (n3 + 1) c6 q ∧ OffR (rs ++ [(A4, j, c4)]) q) := fun q hq => by
                  have h3 := hQ q hq
                  exact ⟨h3.1.next (ho5.lt q hq).2.2 hat6, h3.2.1.push h3.2.2⟩
                have hB5 : Below W.heap.size W x5 := HB2.out.trans (hSo.below_ hx5 hws2)
                have HB6 : Hid (Below W.heap.size W x6) := hB5.trans (hO5.o.below_ hx6 hB5.size)
                clear hQ hC5 hB5 ho5 hx5 hat5 hO5 ho6 hx6 hat6 hSo HOo
                go_roundw
                case rel => exact ⟨k + 1, n3 + 1, A6, c6, _, m + j, A5, c5, by go_num, rfl, rfl, by omega, by omega, by omega, HO6.out, HS6.out, HF6.out, HB6.out⟩
                case measure => (simp [intOf] <;> omega)
      · obtain rfl : k = a.size := by omega
        have i1 : (a.size : Int) < (a.size : Int) + 1 := by omega
        go_wp2
        go_ret2
        refine ⟨_, _, _, rs, ret_slb (show ok_CyclesOf a = true from Hb.out.symm), ?_, HB.out⟩
        rw [E1.out Hb.out.symm]; exact HO.out
end Go.Proofs.Ytgpjbmlemnjhfaa
