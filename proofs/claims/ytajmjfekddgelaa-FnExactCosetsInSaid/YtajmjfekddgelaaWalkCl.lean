/- The walk of the reference's enumeration of what some rows generate. -/
import Derived.Test.YtajmjfekddgelaaWalkGe
import Derived.Test.YtajmjfekddgelaaWalkD
namespace Go.Proofs.Ytajmjfekddgelaa
open Go.RowKit Go.Maps
set_option linter.unusedVariables false

def boolsV (l : List Bool) : List Value := l.map .bool
def seenL (F : Nat) (L : List ByteArray) : List Bool := (List.range F).map fun r => L.any fun s => decide (rankL (bs s) = r)
theorem seenL_len (F : Nat) (L : List ByteArray) : (seenL F L).length = F := by simp [seenL]
theorem seenL_nil (F : Nat) : seenL F [] = List.replicate F false := by
  apply List.ext_getElem
  · simp [seenL]
  · intro i h1 h2; simp [seenL]
theorem seenL_snoc (F : Nat) (L : List ByteArray) (y : ByteArray) : seenL F (L ++ [y]) = (seenL F L).set (rankL (bs y)) true := by
  apply List.ext_getElem
  · simp [seenL]
  · intro i h1 h2
    rw [List.getElem_set]
    simp only [seenL, List.getElem_map, List.getElem_range, List.any_append, List.any_cons, List.any_nil, Bool.or_false]
    by_cases e : rankL (bs y) = i
    · simp [e]
    · simp [e]
theorem seenL_hit {n F : Nat} {L : List ByteArray} {y : ByteArray} (hL : RowsN n L) (hy : IsRow (bs y) ∧ y.size = n) {r : Nat} (hr : r = rankL (bs y)) (hF : r < F) : (boolsV (seenL F L))[r]? = some (.bool (hasB L y)) := by
  unfold boolsV seenL
  rw [List.getElem?_map, List.getElem?_map, List.getElem?_range hF]
  simp only [Option.map_some]
  congr 2
  rw [Bool.eq_iff_iff, List.any_eq_true, hasB_mem]
  constructor
  · rintro ⟨s, hs, e⟩
    have e2 := of_decide_eq_true e
    exact (rank_row_inj (hL s hs) hy (by rw [e2, hr])) ▸ hs
  · exact fun h => ⟨y, h, decide_eq_true hr.symm⟩
theorem wx_set (w : World) (b r : Nat) (u : Value) : Wx (some b) w (w.setCell ⟨b, r, none⟩ u) :=
  ⟨rfl, rfl, rfl, by simp, fun k hk hne => Below.heap_setCell _ _ _ _ (by
    have : k ≠ b := fun e => hne (by rw [e])
    first | exact this | exact this.symm)⟩
theorem wpList_append1y {P : Program} (w : World) {ops : Array Oper} {rest : List Oper} {o : Oper} {a : Act} {Q : Exit → Act → World → Prop} (hgd : o.guard = none) (s x : Operand) (t : TypeId)
    (ho : o.op = .call { callee := .builtin .append, args := #[s, x], argTypes := #[t, t] })
    (e : TypeId) (z : Value) (bytes : Nat) (ht : P.underlying t = some (.slice e)) (hi : (P.info? e).map (fun i => (i.zero, i.size, i.bytes)) = some (some z, 1, bytes)) (hzs : z.cells.size = 1)
    (B : Nat) (A : Option Addr) (n c : Nat) (xs : List Value) (u : Value) (hs : a.eval s = .slice A n c) (g0 : Nat) (hg0 : g0 = w.heap.size) (hx : a.eval x = .slice (some ⟨g0, 0, none⟩) 1 1) (hu : u.oneCell' = true)
    (hown : Own w e B w.heap.size A n c xs) (hn : n + 1 ≤ 4294967296) (hby : bytes ≤ 24) (hB : B ≤ w.heap.size)
    (h : ∀ A' c' w', Own w' e B w'.heap.size A' (n + 1) c' (xs ++ [u]) → Wx (Value.slice A n c).ownBlock w w' → w.heap.size < w'.heap.size → ((Value.slice A' (n + 1) c').ownBlock = (Value.slice A n c).ownBlock ∨ ∃ g, A' = some ⟨g, 0, none⟩ ∧ w.heap.size ≤ g) → wpList P ops Q rest (a.put o.dst (.slice A' (n + 1) c')) w') :
    wpList P ops Q (o :: rest) a (w.alloc (.cells #[u] e)) :=
  wpList_append1x w hgd s x t ho e z bytes ht hi hzs B A n c xs u hs (hx.trans (by rw [hg0])) hu hown hn hby hB h
theorem info_bool : (Try.prog.info? 4).map (fun i => (i.zero, i.size, i.bytes)) = some (some (.bool false), 1, 1) := by kernel_rfl
set_option maxRecDepth 100000 in
set_option maxHeartbeats 1000000 in
theorem l6Seen_any (n : Nat) (w : World) (h8 : n ≤ 8) : Calls Try.prog 62 #[.int .i64 n] w fun e w' => e = .returned (.slice (some ⟨w.heap.size, 0, none⟩) (factN n) (factN n)) ∧ Own w' 4 w.heap.size w'.heap.size (some ⟨w.heap.size, 0, none⟩) (factN n) (factN n) (boolsV (seenL (factN n) [])) ∧ Below w.heap.size w w' ∧ w.heap.size < w'.heap.size := by
  have HFa : Hid (∀ W, Calls Try.prog 80 #[.int .i64 (n : Int)] W fun e w' => e = .returned (.int .i64 (factN n : Int)) ∧ W = w') := fun W => by
    have := l1Fact_any (n : Int) W (by omega) (by omega)
    rwa [Int.toNat_natCast] at this
  have hf : factN n ≤ 40320 := factN_le h8
  obtain ⟨F, hF⟩ : ∃ F, F = factN n := ⟨_, rfl⟩
  rw [← hF] at HFa hf ⊢
  obtain ⟨w1, hmk, hown, hbel, hlt⟩ := make_row (P := Try.prog) w 57 4 (.bool false) 1 Try.underlying57 info_bool rfl (by omega) F (by omega)
  have HO0 : Hid (Own w1 4 w.heap.size w1.heap.size (some ⟨w.heap.size, 0, none⟩) F F (boolsV (seenL F []))) := by
    refine hown.congr ?_
    rw [seenL_nil]; simp [boolsV]
  clear hown hF
  go_enter Try.func62, Try.ntmps62
  go_wp2_with fail
  refine (HFa.out _).mono ?_
  rintro e w' ⟨rfl, rfl⟩
  go_wp2
  go_ret
  exact ⟨rfl, HO0.out, hbel, hlt⟩
set_option maxRecDepth 100000 in
set_option maxHeartbeats 2000000 in
theorem l6Close_any (n M : Nat) (hM : M = 800) (A : Option Addr) (m c : Nat) (gs : List ByteArray) (W : World) (h3 : 3 ≤ n) (h8 : n ≤ 8) (hm0 : 0 < m) (hm : m ≤ 800) (hr : Rd W A m (strsV gs)) (hg : RowsN n gs) :
    Calls Try.prog 49 #[.slice A m c] W (RetSB 9 (strsV (genL n gs M)) (genB n gs M) W) := by
  have HMM := Lib.hid hM
  clear hM
  obtain ⟨b0, o0, rfl, hb0, hcs0⟩ := hr.strD hm0
  have hcg := hcs0 0 hm0
  have Hl := Lib.hid hr.slen
  have Hg := Lib.hid hg
  have Hr := Lib.hid hr
  have hgz : (getS gs 0).size = n := (hg.get (by have := hr.slen; omega)).2
  obtain ⟨g0, hg0⟩ : ∃ g, g = getS gs 0 := ⟨_, rfl⟩
  rw [← hg0] at hcg hgz
  rw [Nat.add_zero] at hcg
  have He := rounds_row h3 h8
  have HRo : Hid (∀ w, Calls Try.prog 61 #[.int .i64 (g0.size : Int)] w fun e w' => e = .returned (.string (mkS (roundsL n))) ∧ w = w') := fun w => by
    have := l1Rounds_any (n : Int) w (by omega) (by omega)
    rw [Int.toNat_natCast] at this
    rw [hgz]; exact this
  have EL : Hid (genB n gs M = true → genL n gs M = srt (clAll (mkS (roundsL n)) gs M)) := fun h => by unfold genL; rw [if_pos (show clOK (mkS (roundsL n)) gs M = true from h)]
  have EN : Hid (genB n gs M = false → genL n gs M = []) := fun h => by unfold genL; rw [show clOK (mkS (roundsL n)) gs M = false from h]; simp
  have EB : Hid (genB n gs M = clOK (mkS (roundsL n)) gs M) := rfl
  obtain ⟨e0, he0⟩ : ∃ e, e = mkS (roundsL n) := ⟨_, rfl⟩
  rw [← he0] at He HRo EL EB
  have HE := Lib.hid He
  have HSe : Hid (∀ w, Calls Try.prog 62 #[.int .i64 (e0.size : Int)] w fun e w' => e = .returned (.slice (some ⟨w.heap.size, 0, none⟩) (factN n) (factN n)) ∧ Own w' 4 w.heap.size w'.heap.size (some ⟨w.heap.size, 0, none⟩) (factN n) (factN n) (boolsV (seenL (factN n) [])) ∧ Below w.heap.size w w' ∧ w.heap.size < w'.heap.size) := fun w => by rw [He.2]; exact l6Seen_any n w h8
  have HPl : Hid (∀ y : ByteArray, y.size = n → ∀ w, Calls Try.prog 63 #[.string y] w fun e w' => e = .returned (.int .i64 (rankL (bs y) : Nat)) ∧ Below w.heap.size w w') := fun y hy w => (l1Place_any y w (by omega)).mono fun e w' h => ⟨h.1, by obtain ⟨d, rfl⟩ := h.2; exact below_drewN' (Below.refl _ _) _⟩
  have HRk : Hid (∀ y : ByteArray, y.size = n → rankL (bs y) < factN n) := fun y hy => by
    have := rankL_lt (bs y)
    rwa [size_bs, hy] at this
  have hf : factN n ≤ 40320 := factN_le h8
  have HP0 := Lib.hid (HPl.out e0 He.2)
  have hrk0 := HRk.out e0 He.2
  obtain ⟨F, hF⟩ : ∃ F, F = factN n := ⟨_, rfl⟩
  rw [← hF] at HSe HRk hf hrk0
  obtain ⟨r0, hr0⟩ : ∃ r, r = rankL (bs e0) := ⟨_, rfl⟩
  rw [← hr0] at HP0 hrk0
  have HR0 := Lib.hid hr0
  have i0 : (0 : Int) < (m : Int) := by omega
  have i00 : (r0 : Int) < (F : Int) := by omega
  clear hr hg he0 He hcs0 hg0 hgz hr0 hF
  go_enter Try.func49, Try.ntmps49
  go_wp2_with fail
  refine (HRo.out _).mono ?_
  rintro e w' ⟨rfl, rfl⟩
  go_wp2_with fail
  refine (HSe.out _).mono ?_
  rintro e w1 ⟨rfl, ho1, hb1, hW1⟩
  go_wp2_with fail
  refine (HP0.out _).mono ?_
  rintro e w2 ⟨rfl, hb2⟩
  have ho2 := (ho1.below hb2).mono (Nat.le_refl _) hb2.size
  have hW2 : W.heap.size < w2.heap.size := Nat.lt_of_lt_of_le hW1 hb2.size
  have hlen0 : r0 < (boolsV (seenL F [])).length := by unfold boolsV; rw [List.length_map, seenL_len]; exact hrk0
  obtain ⟨v0, hcz⟩ : ∃ v, w2.cell? ⟨W.heap.size, r0, none⟩ = some v := ⟨_, ho2.mem.get hlen0⟩
  have hfz := ho2.mem.free hlen0
  have HS3 : Hid (Own (w2.setCell ⟨W.heap.size, r0, none⟩ (.bool true)) 4 W.heap.size w2.heap.size (some ⟨W.heap.size, 0, none⟩) F F (boolsV (seenL F [e0]))) := by
    refine (ho2.set_ r0 (.bool true)).congr ?_
    rw [show [e0] = [] ++ [e0] from rfl, seenL_snoc, ← HR0.out]; simp [boolsV, List.map_set]
  have HB3 : Hid (Below W.heap.size W (w2.setCell ⟨W.heap.size, r0, none⟩ (.bool true))) := (hb1.trans (hb2.mono hb1.size)).setCell (Nat.le_refl _) _
  have hsz3 : (w2.setCell ⟨W.heap.size, r0, none⟩ (.bool true)).heap.size = w2.heap.size := by simp
  clear ho1 hb1 ho2 hb2 hlen0
  obtain ⟨w3, hw3⟩ : ∃ w, w = w2.setCell ⟨W.heap.size, r0, none⟩ (.bool true) := ⟨_, rfl⟩
  rw [← hw3] at HS3 HB3 hsz3
  have hW3 : W.heap.size < w3.heap.size := by omega
  have HO4 : Hid (Own (w3.alloc (.cells #[.string e0] 9)) 9 W.heap.size (w3.alloc (.cells #[.string e0] 9)).heap.size (some ⟨w2.heap.size, 0, none⟩) 1 1 (strsV [e0])) := by rw [← hsz3]; exact (own_one w3 9 (.string e0)).mono (by omega) (Nat.le_refl _)
  have HS4 : Hid (Own (w3.alloc (.cells #[.string e0] 9)) 4 W.heap.size (w3.alloc (.cells #[.string e0] 9)).heap.size (some ⟨W.heap.size, 0, none⟩) F F (boolsV (seenL F [e0]))) := (HS3.out.below (below_alloc w3 _)).mono (Nat.le_refl _) (by simp; omega)
  have HB4 : Hid (Below W.heap.size W (w3.alloc (.cells #[.string e0] 9))) := HB3.out.trans ((below_alloc w3 _).mono HB3.out.size)
  have HF4 : Hid (Off (some ⟨w2.heap.size, 0, none⟩) 1 1 W.heap.size) := fun q hq => by simp [Value.ownBlock] at hq; omega
  clear hsz3
  subst hw3
  go_wp2
  go_loopw [6, 7] (fun l i wr => ∃ (k L : Nat) (A3 : Option Addr) (c3 : Nat), i = .int .i64 k ∧ l = .slice A3 L c3 ∧ k ≤ L ∧ L ≤ 800 ∧ Hid ((clTo e0 gs k).length = L) ∧ Hid (Own wr 9 W.heap.size wr.heap.size A3 L c3 (strsV (clTo e0 gs k))) ∧ Hid (Off A3 L c3 W.heap.size) ∧ Hid (Own wr 4 W.heap.size wr.heap.size (some ⟨W.heap.size, 0, none⟩) F F (boolsV (seenL F (clTo e0 gs k)))) ∧ W.heap.size < wr.heap.size ∧ Hid (Below W.heap.size W wr)) (fun _ i _ => 801 - (intOf i).toNat)
  case atStart => exact ⟨0, 1, _, _, rfl, rfl, by omega, by omega, rfl, HO4.out, HF4.out, HS4.out, by simp; omega, HB4.out⟩
  case round =>
    clear hcz hfz
    obtain ⟨k, L, A3, c3, rfl, rfl, hkL, hLm, HL, HO, HF, HS, hWr0, HB⟩ := hrel
    by_cases hlt : k < L
    · have i1 : (k : Int) < (L : Int) := by omega
      have HLR : Hid (RowsN n (clTo e0 gs k)) := clTo_rows HE.out Hg.out k
      have HFin : Hid (clTo e0 gs (k + 1) = clIn (getS (clTo e0 gs k) k) gs (clTo e0 gs k) m) := by
        unfold Hid
        rw [clTo_succ e0 gs (by have := HL.out; omega), Hl.out]
      have HX : Hid (IsRow (bs (getS (clTo e0 gs k) k)) ∧ (getS (clTo e0 gs k) k).size = n) := HLR.out.get (by have := HL.out; omega)
      obtain ⟨Lk, hLk⟩ : ∃ l, l = clTo e0 gs k := ⟨_, rfl⟩
      rw [← hLk] at HL HO HS HLR HFin HX
      obtain ⟨x, hx⟩ : ∃ x, x = getS Lk k := ⟨_, rfl⟩
      rw [← hx] at HFin HX
      have Hx := Lib.hid hx
      clear hLk hx
      go_wp2
      go_loopw [6, 33] (fun l i wr => ∃ (j L2 : Nat) (A3 : Option Addr) (c3 : Nat), i = .int .i64 j ∧ l = .slice A3 L2 c3 ∧ j ≤ m ∧ L ≤ L2 ∧ L2 ≤ L + j ∧ Hid ((clIn x gs Lk j).length = L2) ∧ Hid (Own wr 9 W.heap.size wr.heap.size A3 L2 c3 (strsV (clIn x gs Lk j))) ∧ Hid (Off A3 L2 c3 W.heap.size) ∧ Hid (Own wr 4 W.heap.size wr.heap.size (some ⟨W.heap.size, 0, none⟩) F F (boolsV (seenL F (clIn x gs Lk j)))) ∧ W.heap.size < wr.heap.size ∧ Hid (Below W.heap.size W wr)) (fun _ i _ => m - (intOf i).toNat)
      case atStart => exact ⟨0, L, _, _, rfl, rfl, by omega, by omega, by omega, by unfold Hid clIn; simpa using HL.out, by unfold Hid clIn; simpa using HO.out, HF.out, by unfold Hid clIn; simpa using HS.out, hWr0, HB.out⟩
      case round =>
        clear HO HF HS HB hWr0
        obtain ⟨j, L2, A4, c4, rfl, rfl, hj, hL2, hL2m, HLn, HO, HF, HS, hWr, HB⟩ := hrel
        by_cases hjm : j < m
        · obtain ⟨b, off, e9, hbs, hcs⟩ := (Hr.out.below HB.out).strD hjm
          injection e9 with e9; injection e9 with e91 e92; subst e91 e92
          have hc1 := hcs j hjm
          obtain ⟨b2, off2, rfl, hbs2, hcs2⟩ := HO.out.rd.strD (k := k) (by omega)
          have hc2 := hcs2 k (by omega)
          rw [clIn_get x gs Lk j (by have := HL.out; omega), ← Hx.out] at hc2
          have hjl : j < gs.length := by have := Hl.out; omega
          have hG := Hg.out.get hjl
          have hS := clIn_succ x gs Lk hjl
          obtain ⟨g, hgg⟩ : ∃ g, g = getS gs j := ⟨_, rfl⟩
          rw [← hgg] at hc1 hG hS
          have HT : Hid (∀ W', Calls Try.prog 64 #[.string x, .string g] W' fun e w' => e = .returned (.string (timS x g)) ∧ W' = w') := fun W' => l1Times_any x g W' HX.out.1 hG.1 (by rw [HX.out.2, hG.2])
          have hY := timS_row HX.out hG
          unfold clStep at hS
          obtain ⟨y, hy⟩ : ∃ y, y = timS x g := ⟨_, rfl⟩
          rw [← hy] at HT hY hS
          have HPy := Lib.hid (HPl.out y hY.2)
          have hrk := HRk.out y hY.2
          have HSn := Lib.hid (seenL_snoc F (clIn x gs Lk j) y)
          obtain ⟨r, hrr⟩ : ∃ r, r = rankL (bs y) := ⟨_, rfl⟩
          have hht := seenL_hit (F := F) (clIn_rows HX.out Hg.out HLR.out j) hY hrr (by rw [hrr]; exact hrk)
          rw [← hrr] at HPy hrk HSn
          obtain ⟨q, hq⟩ : ∃ q, q = hasB (clIn x gs Lk j) y := ⟨_, rfl⟩
          rw [← hq] at hS hht
          have Hht := Lib.hid hht
          have hlr : Hid (r < (boolsV (seenL F (clIn x gs Lk j))).length) := by unfold Hid boolsV; rw [List.length_map, seenL_len]; exact hrk
          have HCq : Hid (∀ w', Own w' 4 W.heap.size w'.heap.size (some ⟨W.heap.size, 0, none⟩) F F (boolsV (seenL F (clIn x gs Lk j))) → w'.cell? ⟨W.heap.size, r, none⟩ = some (.bool q)) := fun w' h => by
            have h1 := h.mem.get hlr.out
            rw [h1]
            have h2 := Hht.out
            rw [List.getElem?_eq_getElem hlr.out] at h2
            exact h2
          have i2 : (j : Int) < (m : Int) := by omega
          have i3 : (k : Int) < (L2 : Int) := by omega
          have i4 : (r : Int) < (F : Int) := by omega
          clear hcs hcs2 hjl hG hgg hy hY hht hq hrr
          cases q with
          | true =>
            have HSs : Hid (clIn x gs Lk (j + 1) = clIn x gs Lk j) := by unfold Hid; rw [hS, if_pos rfl]
            clear hS
            go_wp2_with fail
            refine (HT.out _).mono ?_
            rintro e w' ⟨rfl, rfl⟩
            go_wp2_with fail
            refine (HPy.out _).mono ?_
            rintro e x5 ⟨rfl, hb5⟩
            have HO5 : Hid (Own x5 9 W.heap.size x5.heap.size (some ⟨b2, off2, none⟩) L2 c4 (strsV (clIn x gs Lk j))) := (HO.out.below hb5).mono (Nat.le_refl _) hb5.size
            have HS5 : Hid (Own x5 4 W.heap.size x5.heap.size (some ⟨W.heap.size, 0, none⟩) F F (boolsV (seenL F (clIn x gs Lk j)))) := (HS.out.below hb5).mono (Nat.le_refl _) hb5.size
            have HB5 : Hid (Below W.heap.size W x5) := HB.out.trans (hb5.mono HB.out.size)
            have hW5 : W.heap.size < x5.heap.size := Nat.lt_of_lt_of_le hWr hb5.size
            have hcq := HCq.out x5 HS5.out
            clear hb5
            go_wp2
            go_roundw
            case rel => exact ⟨j + 1, L2, _, c4, by go_num, rfl, by omega, hL2, by omega, by unfold Hid; rw [HSs.out]; exact HLn.out, by unfold Hid; rw [HSs.out]; exact HO5.out, HF.out, by unfold Hid; rw [HSs.out]; exact HS5.out, hW5, HB5.out⟩
            case measure => (simp [intOf] <;> omega)
          | false =>
            have HSs : Hid (clIn x gs Lk (j + 1) = clIn x gs Lk j ++ [y]) := by unfold Hid; rw [hS, if_neg (by simp)]
            clear hS
            go_wp2_with fail
            refine (HT.out _).mono ?_
            rintro e w' ⟨rfl, rfl⟩
            go_wp2_with fail
            refine (HPy.out _).mono ?_
            rintro e x5 ⟨rfl, hb5⟩
            have HO5 := (HO.out.below hb5).mono (Nat.le_refl _) hb5.size
            have HS5 := (HS.out.below hb5).mono (Nat.le_refl _) hb5.size
            have HB5 : Below W.heap.size W x5 := HB.out.trans (hb5.mono HB.out.size)
            have hW5 : W.heap.size < x5.heap.size := Nat.lt_of_lt_of_le hWr hb5.size
            have hcq := HCq.out x5 HS5
            clear hb5
            go_wp2_with fail
            refine (HPy.out _).mono ?_
            rintro e x6 ⟨rfl, hb6⟩
            have HO6 := (HO5.below hb6).mono (Nat.le_refl _) hb6.size
            have HS6 := (HS5.below hb6).mono (Nat.le_refl _) hb6.size
            have HB6 : Below W.heap.size W x6 := HB5.trans (hb6.mono HB5.size)
            have hW6 : W.heap.size < x6.heap.size := Nat.lt_of_lt_of_le hW5 hb6.size
            have hcq6 := HCq.out x6 HS6
            have hfz6 := HS6.mem.free hlr.out
            have HO7 : Own (x6.setCell ⟨W.heap.size, r, none⟩ (.bool true)) 9 W.heap.size (x6.setCell ⟨W.heap.size, r, none⟩ (.bool true)).heap.size (some ⟨b2, off2, none⟩) L2 c4 (strsV (clIn x gs Lk j)) := ((wx_set x6 W.heap.size r (.bool true)).own HO6 (fun g hg e => HF.out g hg (by injection e))).mono (Nat.le_refl _) (by simp)
            have HS7 : Own (x6.setCell ⟨W.heap.size, r, none⟩ (.bool true)) 4 W.heap.size (x6.setCell ⟨W.heap.size, r, none⟩ (.bool true)).heap.size (some ⟨W.heap.size, 0, none⟩) F F (boolsV (seenL F (clIn x gs Lk (j + 1)))) := by
              refine ((HS6.set_ r (.bool true)).congr ?_).mono (Nat.le_refl _) (by simp)
              rw [HSs.out, HSn.out]; simp [boolsV, List.map_set]
            have HB7 : Below W.heap.size W (x6.setCell ⟨W.heap.size, r, none⟩ (.bool true)) := HB6.setCell (Nat.le_refl _) _
            have hW7 : W.heap.size < (x6.setCell ⟨W.heap.size, r, none⟩ (.bool true)).heap.size := by simpa using hW6
            clear hb6 HO5 HS5 HB5 HO6 HS6 HB6 hcq
            go_wp2_with (at_builtin; refine wpList_append1y (x6.setCell ⟨W.heap.size, r, none⟩ (.bool true)) rfl (.tmp 53) (.tmp 55) 22 rfl 9 (.string ByteArray.empty) 16 Try.underlying22 info_str rfl W.heap.size _ L2 c4 _ (.string y) rfl x6.heap.size (by simp) rfl rfl HO7 (by omega) (by omega) HB7.size ?_; intro A8 c8 x8 ho8 hx8 hsz8 hat8)
            have HO8 : Hid (Own x8 9 W.heap.size x8.heap.size A8 (L2 + 1) c8 (strsV (clIn x gs Lk (j + 1)))) := ho8.congr (by rw [HSs.out, strsV_app, strsV_one])
            have HB8 : Hid (Below W.heap.size W x8) := HB7.trans (HO7.below_ hx8 HB7.size)
            have HS8 : Hid (Own x8 4 W.heap.size x8.heap.size (some ⟨W.heap.size, 0, none⟩) F F (boolsV (seenL F (clIn x gs Lk (j + 1))))) := (hx8.own HS7 (fun g hg => by
              have hg2 : W.heap.size = g := by simpa [Value.ownBlock] using hg
              subst hg2; exact HF.out.ne)).mono (Nat.le_refl _) hx8.size
            have hW8 : W.heap.size < x8.heap.size := Nat.lt_of_lt_of_le hW7 hx8.size
            have HF8 : Hid (Off A8 (L2 + 1) c8 W.heap.size) := HF.out.next hW7 hat8
            have HL8 : Hid ((clIn x gs Lk (j + 1)).length = L2 + 1) := by unfold Hid; rw [HSs.out, List.length_append, HLn.out]; rfl
            clear HO7 HS7 HB7 hW7 ho8 hx8 hat8
            go_roundw
            case rel => exact ⟨j + 1, L2 + 1, A8, c8, by go_num, rfl, by omega, by omega, by omega, HL8.out, HO8.out, HF8.out, HS8.out, hW8, HB8.out⟩
            case measure => (simp [intOf] <;> omega)
        · obtain rfl : j = m := by omega
          by_cases h800 : 800 < L2
          · have i5 : (800 : Int) < (L2 : Int) := by omega
            have E : Hid (genB n gs M = false) := by
              unfold Hid
              rw [EB.out]
              exact clOK_no (k := k) (by have := HMM.out; omega) (by rw [HFin.out, HLn.out]; have := HMM.out; omega)
            go_wp2
            go_ret2
            refine ⟨none, 0, 0, ret_slb E.out, ?_, HB.out⟩
            rw [EN.out E.out]; exact Own.nil _ _ _ _
          · have i5 : (L2 : Int) ≤ 800 := by omega
            go_wp2
            go_roundw
            case rel => exact ⟨k + 1, L2, A4, c4, by go_num, rfl, by omega, by omega, by unfold Hid; rw [HFin.out]; exact HLn.out, by unfold Hid; rw [HFin.out]; exact HO.out, HF.out, by unfold Hid; rw [HFin.out]; exact HS.out, hWr, HB.out⟩
            case measure => (simp [intOf] <;> omega)
    · have hd := clOK_done (e := e0) (gs := gs) (m := M) (k := k) (by have := HL.out; omega) (by have := HMM.out; omega)
      have E : Hid (genB n gs M = true) := by unfold Hid; rw [EB.out]; exact hd.2
      have E2 : Hid (genL n gs M = srt (clTo e0 gs k)) := by unfold Hid; rw [EL.out E.out, hd.1]
      have HSo := Lib.hid (l6Sort_any L A3 L c3 (clTo e0 gs k) wr (Nat.le_refl _) (by omega) HO.out.rd)
      clear hd
      go_wp2_with (go_at_call 27; refine HSo.out.mono ?_; rintro e w5 ⟨A5, n5, c5, rfl, ho5, hb5⟩)
      go_ret2
      refine ⟨A5, n5, c5, ret_slb E.out, ?_, HB.out.trans (hb5.mono HB.out.size)⟩
      rw [E2.out]; exact ho5.mono HB.out.size (Nat.le_refl _)
end Go.Proofs.Ytajmjfekddgelaa
