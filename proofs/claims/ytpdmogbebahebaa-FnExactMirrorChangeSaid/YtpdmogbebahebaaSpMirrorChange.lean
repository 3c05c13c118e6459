/- MirrorChange, of the reference and of the program: what each returns. -/
import Derived.Test.YtpdmogbebahebaaWalkR
import Derived.Test.YtpdmogbebahebaaWalkT
namespace Go.Proofs.Ytpdmogbebahebaa
open Go.RowKit
set_option linter.unusedVariables false

def txt (ps : List Int) : List UInt8 := ps.map fun p => UInt8.ofNat (48 + p.toNat)
def ofS (ps : List Int) : ByteArray := if ps = [] then { data := #[45] } else mkS (txt ps)
theorem txt_snoc {ps : List Int} {k : Nat} (h : k < ps.length) : mkS (txt (ps.take (k + 1))) = mkS (txt (ps.take k)) ++ dgS ps[k] := by
  unfold dgS; rw [mkS_append, List.take_succ_eq_append_getElem h]; simp only [txt, List.map_append, List.map_cons, List.map_nil]
theorem val_str {a b : ByteArray} (h : a = b) : Value.string a = .string b := by rw [h]
theorem mkS_nonempty {l : List UInt8} (h : l ≠ []) : (mkS l).toList.isEmpty = false := by
  have e : bs (mkS l) = l := bs_mkS l
  rw [List.isEmpty_eq_false_iff]
  intro e2
  rw [ByteArray.toList_eq] at e2
  exact h (e.symm.trans e2)
theorem mkS_nil : mkS [] = { data := #[] } := rfl
set_option maxRecDepth 100000 in
set_option maxHeartbeats 1000000 in
theorem l2Of_any (A : Option Addr) (n c : Nat) (ps : List Int) (w : World) (hn : n ≤ 8) (hr : Rd w A n (intsV ps)) (hb : ∀ p ∈ ps, 0 ≤ p ∧ p ≤ 9) : Calls Try.prog 59 #[.slice A n c] w fun e w' => e = .returned (.string (ofS ps)) ∧ Below w.heap.size w w' := by
  have Hr := Lib.hid hr
  have Hl := Lib.hid hr.ilen
  have Hb := Lib.hid hb
  clear hr hb
  go_enter Try.func59, Try.ntmps59
  go_wp2
  go_loopw [3, 8] (fun t i wr => ∃ (k : Nat) (t0 : ByteArray), i = .int .i64 k ∧ t = .string t0 ∧ k ≤ n ∧ t0.size ≤ k ∧ Hid (t0 = mkS (txt (ps.take k))) ∧ Hid (Below w.heap.size w wr)) (fun _ i _ => n - (intOf i).toNat)
  case atStart => exact ⟨0, _, rfl, rfl, by omega, Nat.zero_le _, rfl, Below.refl _ _⟩
  case round =>
    obtain ⟨k, t, rfl, rfl, hk, htk, Ht, HB⟩ := hrel
    by_cases hkn : k < n
    · have i1 : (k : Int) < (n : Int) := by omega
      obtain ⟨b, off, rfl, hbs, hcp⟩ := (Hr.out.below HB.out).int hkn
      have hkl : k < ps.length := by have := Hl.out; omega
      have HT := Lib.hid (txt_snoc hkl)
      obtain ⟨hp0, hp9⟩ := Hb.out _ (List.getElem_mem hkl)
      obtain ⟨p, hp⟩ : ∃ p, p = ps[k] := ⟨_, rfl⟩
      rw [← hp] at hcp HT hp0 hp9
      clear hp
      obtain ⟨d, hd⟩ : ∃ d, d = dgS p := ⟨_, rfl⟩
      have hd1 : d.size = 1 := by rw [hd]; unfold dgS; rw [size_mkS]; rfl
      have HC := Lib.hid (l1Num_small p wr hp0 hp9)
      rw [← hd] at HC HT
      have hzz : Hid ((t ++ d).size = t.size + 1) := by unfold Hid; rw [← size_bs, bs_append, List.length_append, size_bs, size_bs, hd1]
      clear hd
      go_wp2_with fail
      refine (HC.out).mono ?_
      rintro e w1 ⟨rfl, hb1⟩
      have HB1 : Hid (Below w.heap.size w w1) := HB.out.trans (hb1.mono HB.out.size)
      clear hb1
      go_wp2
      go_roundw
      case rel => exact ⟨k + 1, _, by go_num, rfl, by omega, by rw [hzz.out]; omega, by unfold Hid; rw [HT.out, Ht.out], HB1.out⟩
      case measure => (simp [intOf] <;> omega)
    · have hge : (n : Int) ≤ (k : Int) := by omega
      have ht := Ht.out
      rw [List.take_of_length_le (by have := Hl.out; omega)] at ht
      clear Ht
      by_cases h0 : ps = []
      · have ht0 : t = { data := #[] } := by rw [ht, h0]; rfl
        have E : Hid (ofS ps = { data := #[45] }) := by unfold Hid ofS; rw [if_pos h0]
        clear ht h0
        subst ht0
        go_wp2
        go_ret
        exact ⟨ret_s E.out, HB.out⟩
      · have hne : txt ps ≠ [] := by simpa [txt] using h0
        have h1 := mkS_nonempty hne
        rw [← ht] at h1
        have E : Hid (ofS ps = t) := by unfold Hid ofS; rw [if_neg h0, ht]
        have h2 : (t.toList == []) = false := by cases h : t.toList with | nil => rw [h] at h1; exact absurd h1 (by decide) | cons a b => rfl
        have h3 : ¬ t.toList = [] := by intro e; rw [e] at h1; exact absurd h1 (by decide)
        clear ht hne h0
        go_wp2
        go_ret
        exact ⟨ret_s E.out, HB.out⟩
set_option maxRecDepth 100000 in
set_option maxHeartbeats 1000000 in
theorem l1Put_front (A : Option Addr) (n c : Nat) (ps : List Int) (v : Int) (w : World) (hn : n ≤ 8) (hr : Rd w A n (intsV ps)) (hv : ∀ p ∈ ps, v < p) : Calls Try.prog 58 #[.slice A n c, .int .i64 v] w (RetS 3 (intsV (v :: ps)) w) := by
  have Hr := Lib.hid hr
  have Hl := Lib.hid hr.ilen
  have Hv := Lib.hid hv
  clear hr hv
  by_cases h0 : n = 0
  · have hps : ps = [] := List.eq_nil_of_length_eq_zero (by have := Hl.out; omega)
    subst h0
    subst hps
    go_enter Try.func58, Try.ntmps58
    go_wp2
    go_loop [5] (fun i => i = .int .i64 0) (fun _ => 0)
    case atStart => rfl
    case round =>
      subst hrel
      go_wp2_with first
        | (at_builtin; refine wpList_appendN _ rfl (.tmp 34) (.tmp 37) 25 rfl 3 (.int .i64 0) 8 Try.underlying25 info_int rfl w.heap.size (some ⟨w.heap.size, 0, none⟩) 0 0 [] rfl (own_empty w 3) A 0 c [] rfl (fun _ => rfl) ⟨rfl, Nat.zero_le _, .inl rfl⟩ (ints_one []) (by omega) (by omega) (by simp) ?_; intro A1 c1 w1 ho1 hw1 hsz1; have hs1 : w.heap.size ≤ w1.heap.size := (by have := hsz1; simp at this; omega); have hb1 : Below w.heap.size w w1 := (below_alloc w _).trans (hw1.below (Nat.le_refl _) (by simp)))
        | (at_builtin; refine wpList_append1 w1 rfl (.tmp 39) (.tmp 41) 25 rfl 3 (.int .i64 0) 8 Try.underlying25 info_int rfl w.heap.size A1 0 c1 _ (.int .i64 v) rfl rfl rfl ho1 (by omega) (by omega) hs1 ?_; intro A2 c2 w2 ho2 hw2 hsz2 hat2; have hb2 : Below w.heap.size w w2 := hb1.trans (hw2.below (Nat.le_refl _) hs1))
        | (at_builtin; refine wpList_appendN w2 rfl (.tmp 43) (.tmp 46) 25 rfl 3 (.int .i64 0) 8 Try.underlying25 info_int rfl w.heap.size A2 1 c2 _ rfl ho2 A 0 _ (intsV []) rfl (fun _ => rfl) (Hr.out.below hb2) (ints_one []) (by omega) (by omega) (by omega) ?_; intro A3 c3 w3 ho3 hw3 hsz3)
      go_ret
      exact ⟨_, _, _, rfl, ho3.congr (by simp [intsV]), hb2.trans (hw3.below (Nat.le_refl _) (by omega))⟩
  · obtain ⟨b, off, rfl, hbs, hcs⟩ := Hr.out.intD (k := 0) (by omega)
    have hc0 : w.cell? ⟨b, off, none⟩ = some (.int .i64 (ps.getD 0 0)) := hcs 0 (by omega)
    have hvz : v < ps.getD 0 0 := Hv.out _ (by rw [getD_get _ _ _ (by have := Hl.out; omega)]; exact List.getElem_mem _)
    obtain ⟨z, hz⟩ : ∃ z, z = ps.getD 0 0 := ⟨_, rfl⟩
    rw [← hz] at hc0 hvz
    have i1 : (0 : Int) < (n : Int) := by omega
    have d1 : decide (z < v) = false := by simp; omega
    have d2 : (z == v) = false := by simp; omega
    have d3 : v ≤ z := by omega
    clear hz hcs h0
    go_enter Try.func58, Try.ntmps58
    go_wp2
    go_loop [5] (fun i => i = .int .i64 0) (fun _ => 0)
    case atStart => rfl
    case round =>
      subst hrel
      go_wp2_with first
        | (at_builtin; refine wpList_appendN _ rfl (.tmp 34) (.tmp 37) 25 rfl 3 (.int .i64 0) 8 Try.underlying25 info_int rfl w.heap.size (some ⟨w.heap.size, 0, none⟩) 0 0 [] rfl (own_empty w 3) (some ⟨b, off, none⟩) 0 c [] rfl (fun _ => rfl) ⟨rfl, Nat.zero_le _, .inl rfl⟩ (ints_one []) (by omega) (by omega) (by simp) ?_; intro A1 c1 w1 ho1 hw1 hsz1; have hs1 : w.heap.size ≤ w1.heap.size := (by have := hsz1; simp at this; omega); have hb1 : Below w.heap.size w w1 := (below_alloc w _).trans (hw1.below (Nat.le_refl _) (by simp)))
        | (at_builtin; refine wpList_append1 w1 rfl (.tmp 39) (.tmp 41) 25 rfl 3 (.int .i64 0) 8 Try.underlying25 info_int rfl w.heap.size A1 0 c1 _ (.int .i64 v) rfl rfl rfl ho1 (by omega) (by omega) hs1 ?_; intro A2 c2 w2 ho2 hw2 hsz2 hat2; have hb2 : Below w.heap.size w w2 := hb1.trans (hw2.below (Nat.le_refl _) hs1))
        | (at_builtin; refine wpList_appendN w2 rfl (.tmp 43) (.tmp 46) 25 rfl 3 (.int .i64 0) 8 Try.underlying25 info_int rfl w.heap.size A2 1 c2 _ rfl ho2 (some ⟨b, off, none⟩) n _ (intsV ps) rfl (fun e => by cases e) (Hr.out.below hb2) (ints_one ps) (by omega) (by omega) (by omega) ?_; intro A3 c3 w3 ho3 hw3 hsz3)
      go_ret
      exact ⟨_, _, _, rfl, ho3.congr (by simp [intsV]), hb2.trans (hw3.below (Nat.le_refl _) (by omega))⟩
noncomputable def mirP (n : Int) (s : ByteArray) : List Int := ((plsI s).map fun p => n + 1 - p).reverse
def mirTo (n : Int) (zs : List Int) (k : Nat) : List Int := ((zs.take k).map fun p => n + 1 - p).reverse
theorem mirTo_succ {n : Int} {zs : List Int} {k : Nat} (h : k < zs.length) : mirTo n zs (k + 1) = (n + 1 - zs[k]) :: mirTo n zs k := by
  unfold mirTo
  rw [List.take_succ_eq_append_getElem h, List.map_append, List.reverse_append]
  rfl
theorem mirTo_all {n : Int} {s : ByteArray} {k : Nat} (h : (plsI s).length ≤ k) : mirTo n (plsI s) k = mirP n s := by
  unfold mirTo mirP; rw [List.take_of_length_le h]
theorem mirTo_lt {n : Int} {zs : List Int} {k : Nat} (hp : zs.Pairwise (· < ·)) (h : k < zs.length) : ∀ q ∈ mirTo n zs k, n + 1 - zs[k] < q := by
  intro q hq
  simp only [mirTo, List.mem_reverse, List.mem_map] at hq
  obtain ⟨x, hx, rfl⟩ := hq
  obtain ⟨i, hi, rfl⟩ := List.getElem_of_mem hx
  rw [List.length_take] at hi
  rw [List.getElem_take]
  have := (List.pairwise_iff_getElem.1 hp) i k (by omega) h (by omega)
  omega
theorem mirP_bd {n : Int} {zs : List Int} {k : Nat} (h8 : n ≤ 8) (h : Plc n zs) : ∀ q ∈ mirTo n zs k, 0 ≤ q ∧ q ≤ 9 := by
  intro q hq
  simp only [mirTo, List.mem_reverse, List.mem_map] at hq
  obtain ⟨x, hx, rfl⟩ := hq
  have := h.1 x (List.mem_of_mem_take hx)
  omega
noncomputable def out_MC (n : Int) (s : ByteArray) : ByteArray := if chB n s = true then ofS (mirP n s) else { data := #[] }
set_option maxRecDepth 100000 in
set_option maxHeartbeats 2000000 in
theorem sp_MirrorChange (n : Int) (s : ByteArray) (W : World) (hn : (Lit.int .i64 n).wf = true) (hs : s.size ≤ 1048576) :
    Calls Try.prog 26 #[.int .i64 n, .string s] W fun e w' => e = .returned (.tuple #[.string (out_MC n s), .bool (chB n s)]) ∧ Below W.heap.size W w' := by
  cases hc : chB n s with
  | true =>
    have E : Hid (out_MC n s = ofS (mirP n s)) := by unfold Hid out_MC; rw [hc]; simp
    obtain ⟨h3, h8⟩ := ch_stage hc
    have hl6 : (plsI s).length ≤ 6 := by have := (ch_size hc).2; have := plsI_len s; omega
    have HC := Lib.hid (l2Places_any n s W hc)
    have HP := Lib.hid (plc_of hc)
    have HA : Hid (∀ k, (plsI s).length ≤ k → mirTo n (plsI s) k = mirP n s) := fun k hk => mirTo_all hk
    obtain ⟨zs, hzs⟩ : ∃ z, z = plsI s := ⟨_, rfl⟩
    rw [← hzs] at HC HP HA hl6
    clear hzs
    go_enter Try.func26, Try.ntmps26
    go_wp2_with fail
    refine (l2Change_any n s W (by unfold maxLen; omega)).mono ?_
    rintro e w' ⟨rfl, rfl⟩
    go_wp2_with fail
    refine (HC.out).mono ?_
    rintro e w1 ⟨A1, n1, c1, rfl, ho1, hb1⟩
    have hn1 : n1 ≤ 6 := by have := ho1.rd.ilen; omega
    have HL := Lib.hid ho1.rd.ilen
    have HR := Lib.hid ho1.rd
    have HB1 := Lib.hid hb1
    clear ho1 hb1
    go_wp2
    go_loopw [6, 17] (fun l i wr => ∃ (k : Nat) (A2 : Option Addr) (c2 : Nat), i = .int .i64 k ∧ l = .slice A2 k c2 ∧ k ≤ n1 ∧ Hid (Rd wr A2 k (intsV (mirTo n zs k))) ∧ Hid (Below w1.heap.size w1 wr)) (fun _ i _ => n1 - (intOf i).toNat)
    case atStart => exact ⟨0, none, 0, rfl, rfl, by omega, ⟨rfl, Nat.zero_le _, .inl rfl⟩, Below.refl _ _⟩
    case round =>
      obtain ⟨k, A2, c2, rfl, rfl, hk, HR2, HB⟩ := hrel
      by_cases hkn : k < n1
      · have i1 : (k : Int) < (n1 : Int) := by omega
        obtain ⟨b, off, rfl, hbs, hcp⟩ := (HR.out.below HB.out).int hkn
        have hkl : k < zs.length := by have := HL.out; omega
        have HS := Lib.hid (mirTo_succ (n := n) hkl)
        have HLt := Lib.hid (mirTo_lt (n := n) HP.out.2 hkl)
        obtain ⟨hp1, hpn⟩ := HP.out.1 _ (List.getElem_mem hkl)
        obtain ⟨p, hp⟩ : ∃ p, p = zs[k] := ⟨_, rfl⟩
        rw [← hp] at hcp HS HLt hp1 hpn
        clear hp
        have HX := Lib.hid (l1Put_front A2 k c2 (mirTo n zs k) (n + 1 - p) wr (by omega) HR2.out HLt.out)
        go_wp2_with fail
        refine (HX.out).mono ?_
        rintro e w2 ⟨A3, n3, c3, rfl, ho3, hb3⟩
        have hn3 : n3 = k + 1 := by
          have h1 := ho3.rd.ilen
          have h2 := HR2.out.ilen
          rw [List.length_cons] at h1; omega
        subst hn3
        have HR3 : Hid (Rd w2 A3 (k + 1) (intsV (mirTo n zs (k + 1)))) := by
          unfold Hid; rw [HS.out]; exact ho3.rd
        have HB3 : Hid (Below w1.heap.size w1 w2) := HB.out.trans (hb3.mono HB.out.size)
        clear ho3 hb3
        go_wp2
        go_roundw
        case rel => exact ⟨k + 1, A3, c3, by go_num, rfl, by omega, HR3.out, HB3.out⟩
        case measure => (simp [intOf] <;> omega)
      · have hge : (n1 : Int) ≤ (k : Int) := by omega
        have HR3 : Hid (Rd wr A2 k (intsV (mirP n s))) := by
          have h := HR2.out
          rw [HA.out k (by have := HL.out; omega)] at h; exact h
        have hb9 : ∀ q ∈ mirP n s, 0 ≤ q ∧ q ≤ 9 := by
          rw [← HA.out k (by have := HL.out; omega)]; exact mirP_bd h8 HP.out
        have HO := Lib.hid (l2Of_any A2 k c2 (mirP n s) wr (by omega) HR3.out hb9)
        clear hkn hb9
        go_wp2_with fail
        refine (HO.out).mono ?_
        rintro e w2 ⟨rfl, hb2⟩
        go_wp2
        go_ret2
        exact ⟨ret_sb E.out, HB1.out.trans ((HB.out.trans (hb2.mono HB.out.size)).mono HB1.out.size)⟩
  | false =>
    have E : Hid (out_MC n s = { data := #[] }) := by unfold Hid out_MC; rw [hc]; simp
    go_enter Try.func26, Try.ntmps26
    go_wp2_with fail
    refine (l2Change_any n s W (by unfold maxLen; omega)).mono ?_
    rintro e w' ⟨rfl, rfl⟩
    go_wp2
    go_ret2
    exact ⟨ret_sb E.out, Below.refl _ _⟩
set_option maxRecDepth 100000 in
set_option maxHeartbeats 2000000 in
theorem im_MirrorChange (n : Int) (s : ByteArray) (W : World) (hn : (Lit.int .i64 n).wf = true) (hs : s.size ≤ 1048576) :
    Calls Try.prog 27 #[.int .i64 n, .string s] W fun e w' => e = .returned (.tuple #[.string (out_MC n s), .bool (chB n s)]) ∧ Below W.heap.size W w' := by
  cases hc : chB n s with
  | true =>
    have E : Hid (out_MC n s = ofS (mirP n s)) := by unfold Hid out_MC; rw [hc]; simp
    obtain ⟨h3, h8⟩ := ch_stage hc
    have hl6 : (plsI s).length ≤ 6 := by have := (ch_size hc).2; have := plsI_len s; omega
    have HC : Hid (∀ W, Calls Try.prog 55 #[.string s] W (RetS 3 (intsV (plsI s)) W)) := fun W => placesOf_any n s W hc
    have HP := Lib.hid (plc_of hc)
    have HA : Hid (∀ k, (plsI s).length ≤ k → mirTo n (plsI s) k = mirP n s) := fun k hk => mirTo_all hk
    obtain ⟨zs, hzs⟩ : ∃ z, z = plsI s := ⟨_, rfl⟩
    rw [← hzs] at HC HP HA hl6
    clear hzs
    have Hgc := Lib.hid (GoodChange_any n s W (by omega))
    rw [hc] at Hgc
    clear hc
    obtain ⟨m, rfl⟩ : ∃ m : Nat, n = (m : Int) := ⟨n.toNat, by omega⟩
    obtain ⟨r, hr⟩ : ∃ r, r = mkS (roundsL m) := ⟨_, rfl⟩
    have hrs : r.size = m := by rw [hr, size_mkS, roundsL_length]
    have Hrb : Hid (bs r = roundsL m) := by unfold Hid; rw [hr, bs_mkS]
    have HRo : Hid (∀ W, Calls Try.prog 53 #[.int .i64 (m : Int)] W fun e w' => e = .returned (.string r) ∧ W = w') := fun W => by
      have := rounds_any (m : Int) W (by omega) h8
      rwa [Int.toNat_natCast, ← hr] at this
    clear hr
    go_enter Try.func27, Try.ntmps27
    go_wp2_with fail
    refine (Hgc.out).mono ?_
    rintro e w0 ⟨rfl, hb0⟩
    go_wp2_with fail
    refine (HC.out w0).mono ?_
    rintro e w1 ⟨A1, n1, c1, rfl, ho1, hb1⟩
    have hn1 : n1 ≤ 6 := by have := ho1.rd.ilen; omega
    have HL := Lib.hid ho1.rd.ilen
    have HR := Lib.hid ho1.rd
    have HB1 : Hid (Below W.heap.size W w1) := hb0.trans (hb1.mono hb0.size)
    clear ho1 hb1
    go_wp2
    go_loop [6, 16] (fun o i => ∃ (k : Nat) (t : ByteArray), i = .int .i64 k ∧ o = .string t ∧ k ≤ n1 ∧ t.size ≤ k ∧ Hid (t = mkS (txt (mirTo m zs k)))) (fun _ i => n1 - (intOf i).toNat)
    case atStart => exact ⟨0, _, rfl, rfl, by omega, Nat.zero_le _, rfl⟩
    case round =>
      obtain ⟨k, t, rfl, rfl, hk, htk, Ht⟩ := hrel
      by_cases hkn : k < n1
      · have i1 : (k : Int) < (n1 : Int) := by omega
        obtain ⟨b, off, rfl, hbs, hcp⟩ := (HR.out).int hkn
        have hkl : k < zs.length := by have := HL.out; omega
        have HS := Lib.hid (mirTo_succ (n := m) hkl)
        obtain ⟨hp1, hpn⟩ := HP.out.1 _ (List.getElem_mem hkl)
        obtain ⟨p, hp⟩ : ∃ p, p = zs[k] := ⟨_, rfl⟩
        rw [← hp] at hcp HS hp1 hpn
        clear hp
        obtain ⟨d, rfl⟩ : ∃ d : Nat, p = (m : Int) - (d : Int) := ⟨((m : Int) - p).toNat, by omega⟩
        have hdm : d < r.size := by omega
        have hxe : bs (r.extract d (d + 1)) = [UInt8.ofNat (49 + d)] := by
          rw [extract_one' r d hdm]
          have h1 := roundsL_get (n := m) (i := d) (by omega)
          rw [← Hrb.out, getD_bs r d hdm] at h1
          rw [h1]
        have hez : (r.extract d (d + 1)).size = 1 := by rw [← size_bs, hxe]; rfl
        have HT2 : Hid (r.extract d (d + 1) ++ t = mkS (txt (mirTo m zs (k + 1)))) := by
          unfold Hid
          apply bs_inj
          have e1 : txt (((m : Int) + 1 - ((m : Int) - (d : Int))) :: mirTo m zs k) = UInt8.ofNat (49 + d) :: txt (mirTo m zs k) := by
            simp only [txt, List.map_cons]
            rw [show ((m : Int) + 1 - ((m : Int) - (d : Int))).toNat = d + 1 by omega, show 48 + (d + 1) = 49 + d by omega]
          rw [bs_append, hxe, Ht.out, bs_mkS, bs_mkS, HS.out, e1]
          rfl
        have hzz : Hid ((r.extract d (d + 1) ++ t).size = t.size + 1) := by unfold Hid; rw [← size_bs, bs_append, List.length_append, size_bs, size_bs, hez]; omega
        have j1 : (d : Int) < (m : Int) := by omega
        have hmd : m - (m - d) = d := by omega
        have j2 : (d : Int) + 1 ≤ (m : Int) := by omega
        clear hxe HS
        go_wp2_with (go_at_call 53; refine (HRo.out _).mono ?_; rintro e w' ⟨rfl, rfl⟩)
        go_round
        case rel => exact ⟨k + 1, _, by go_num, rfl, by omega, by rw [hzz.out]; omega, HT2.out⟩
        case measure => (simp [intOf] <;> omega)
      · have hge : (n1 : Int) ≤ (k : Int) := by omega
        have ht := Ht.out
        rw [HA.out k (by have := HL.out; omega)] at ht
        by_cases h0 : mirP m s = []
        · have ht0 : t = { data := #[] } := by rw [ht, h0]; rfl
          have E2 : Hid (out_MC m s = { data := #[45] }) := by unfold Hid; rw [E.out, ofS, if_pos h0]
          clear ht h0 Ht
          subst ht0
          go_wp2
          go_ret2
          exact ⟨ret_sb E2.out, HB1.out⟩
        · have hne : txt (mirP m s) ≠ [] := by simpa [txt] using h0
          have h1 := mkS_nonempty hne
          rw [← ht] at h1
          have E2 : Hid (out_MC m s = t) := by unfold Hid; rw [E.out, ofS, if_neg h0, ht]
          have h2 : (t.toList == []) = false := by cases h : t.toList with | nil => rw [h] at h1; exact absurd h1 (by decide) | cons a b => rfl
          have h3 : ¬ t.toList = [] := by intro e; rw [e] at h1; exact absurd h1 (by decide)
          clear ht hne h0 Ht
          go_wp2
          go_ret2
          exact ⟨ret_sb E2.out, HB1.out⟩
  | false =>
    have E : Hid (out_MC n s = { data := #[] }) := by unfold Hid out_MC; rw [hc]; simp
    go_enter Try.func27, Try.ntmps27
    go_wp2_with fail
    refine (GoodChange_any n s W (by omega)).mono ?_
    rintro e w0 ⟨rfl, hb0⟩
    go_wp2
    go_ret2
    exact ⟨ret_sb E.out, hb0⟩
end Go.Proofs.Ytpdmogbebahebaa
