/- The walks of the row of a rank. -/
import Derived.Test.YtobidhabodkoaaaWalkE
import Derived.Test.YtobidhabodkoaaaWalkD
import Derived.Deep.RegionLaw
import Derived.Deep.Upon
namespace Go.Proofs.Ytobidhabodkoaaa
open Go.RowKit
set_option linter.unusedVariables false

def strLen : Value → Nat | .string s => s.size | _ => 0
theorem unrank_step {m : Nat} {left : List UInt8} {q : Nat} {i : Nat} (hi : i = q / factN m) (hl : i < left.length) : unrank (m + 1) left q = [left[i]] ++ unrank m (left.eraseIdx i) (q % factN m) := by
  subst hi
  simp [unrank, List.getD, List.getElem?_eq_getElem hl]
theorem bs_erase (s : ByteArray) (i : Nat) (h : i < s.size) : bs (s.extract 0 i ++ s.extract (i + 1) s.size) = (bs s).eraseIdx i := by
  rw [bs_append, bs_extract, bs_extract, List.eraseIdx_eq_take_drop_succ]
  simp
  rw [List.take_of_length_le (by rw [size_bs]; exact Nat.le_refl _)]

set_option maxHeartbeats 1000000 in
theorem sRowOf_good (n k : Int) (w : World) (h3 : 3 ≤ n) (h8 : n ≤ 8) (hk0 : 0 ≤ k) (hk : k < (factN n.toNat : Nat)) :
    Calls Try.prog 19 #[.int .i64 n, .int .i64 k] w fun e w' => e = .returned (.tuple #[.string (mkS (unrank n.toNat (roundsL n.toNat) k.toNat)), .bool true]) ∧ ∃ d, w' = w.drewN d := by
  have hf8 := factN_8 (n := n.toNat) (by omega)
  obtain ⟨F, hF⟩ : ∃ F : Nat, F = factN n.toNat := ⟨_, rfl⟩
  rw [← hF] at hk hf8
  have hC : ∀ W, Calls Try.prog 48 #[.int .i64 n] W fun e w' => e = .returned (.int .i64 (F : Nat)) ∧ W = w' := fun W => by rw [hF]; exact l1Fact_any n W (by omega) h8
  have HC := Lib.hid hC
  have HF := Lib.hid hF
  have hin : inB n 3 8 = true := inB_true h3 h8
  have hin2 : inB k 0 ((F : Int) - 1) = true := inB_true hk0 (by omega)
  obtain ⟨r, hr⟩ : ∃ r : ByteArray, r = mkS (roundsL n.toNat) := ⟨_, rfl⟩
  have hrC : ∀ W, Calls Try.prog 44 #[.int .i64 n] W fun e w' => e = .returned (.string r) ∧ W = w' := fun W => by rw [hr]; exact l1Rounds_any n W (by omega) h8
  have HrC := Lib.hid hrC
  have hrb : bs r = roundsL n.toNat := by rw [hr, bs_mkS]
  have hrs : (r.size : Int) ≤ n := by rw [← size_bs, hrb, roundsL_length]; omega
  have Hrs : Hid (r.size = n.toNat) := by unfold Hid; rw [← size_bs, hrb, roundsL_length]
  have Hrb := Lib.hid hrb
  clear hC hF hr hrC hrb
  go_enter Try.func19, Try.ntmps19
  go_wp2_with (first | (go_at_call 43; refine (l1In_any _ _ _ _).mono ?_; rintro e w' ⟨rfl, rfl⟩) | (go_at_call 48; refine (HC.out _).mono ?_; rintro e w' ⟨rfl, rfl⟩) | (go_at_call 44; refine (HrC.out _).mono ?_; rintro e w' ⟨rfl, rfl⟩))
  go_loopw [1, 6, 7] (fun kk rest out wr => ∃ (q d : Nat) (t o : ByteArray), kk = .int .i64 q ∧ rest = .string t ∧ out = .string o ∧ t.size ≤ 8 ∧ o.size ≤ 8 ∧ Hid (q < factN t.size ∧ o.size + t.size = n.toNat ∧ bs o ++ unrank t.size (bs t) q = unrank n.toNat (roundsL n.toNat) k.toNat) ∧ wr = w.drewN d) (fun _ rest _ _ => strLen rest)
  case atStart => exact ⟨k.toNat, 0, r, _, val_i (by omega), rfl, rfl, by omega, by decide, ⟨by rw [Hrs.out, ← HF.out]; omega, by rw [Hrs.out]; exact Nat.zero_add _, by rw [Hrs.out, Hrb.out]; rfl⟩, rfl⟩
  case round =>
    obtain ⟨q, d, t, o, rfl, rfl, rfl, ht8, ho8, HQ, rfl⟩ := hrel
    by_cases hpos : 0 < t.size
    · have hp : (0 : Int) < (t.size : Int) := by omega
      obtain ⟨f, hf⟩ : ∃ f : Nat, f = factN (t.size - 1) := ⟨_, rfl⟩
      have hfC : ∀ W, Calls Try.prog 48 #[.int .i64 ((t.size : Int) - 1)] W fun e w' => e = .returned (.int .i64 (f : Nat)) ∧ W = w' := fun W => by
        have := l1Fact_any ((t.size : Int) - 1) W (by omega) (by omega)
        rwa [show ((t.size : Int) - 1).toNat = t.size - 1 by omega, ← hf] at this
      have HfC := Lib.hid hfC
      have hf1 : 1 ≤ f := by rw [hf]; exact factN_pos _
      have hqf : q / f < t.size := by
        obtain ⟨m, hm⟩ : ∃ m, t.size = m + 1 := ⟨t.size - 1, by omega⟩
        have := HQ.out.1
        rw [hm] at this ⊢
        rw [hf, hm, Nat.add_sub_cancel]
        exact div_lt_of_fact this
      obtain ⟨i, hi⟩ : ∃ i : Nat, i = q / f := ⟨_, rfl⟩
      obtain ⟨r2, hr2⟩ : ∃ r2 : Nat, r2 = q % f := ⟨_, rfl⟩
      have hdiv : (q : Int) / (f : Int) = (i : Int) := by rw [hi, Int.natCast_ediv]
      have hmod : (q : Int) % (f : Int) = (r2 : Int) := by rw [hr2, Int.natCast_emod]
      have hil : i < t.size := by omega
      have j1 : (1 : Int) ≤ (f : Int) := by omega
      have j2 : (0 : Int) ≤ (i : Int) := by omega
      have j3 : (i : Int) + 1 ≤ (t.size : Int) := by omega
      have j4 : (0 : Int) ≤ (i : Int) + 1 := by omega
      have hwr : IntKind.i64.wrap ((i : Int) + 1) = (i : Int) + 1 := by rw [IntKind.wrap_i64]; omega
      have hp2 : ((i : Int) + 1).toNat = i + 1 := by omega
      have HI := Lib.hid hi
      have HR := Lib.hid hr2
      have Hf := Lib.hid hf
      clear hfC hqf hi hr2 hf
      go_wp2_with (go_at_call 48; refine (HfC.out _).mono ?_; rintro e w' ⟨rfl, rfl⟩)
      go_quiet (fail)
      go_wp2
      have HQ1 := HQ.out
      have hm : t.size = (t.size - 1) + 1 := by omega
      have hts : (t.extract 0 i ++ t.extract (i + 1) t.size).size = t.size - 1 := by
        rw [← size_bs, bs_erase t i hil, List.length_eraseIdx, size_bs, if_pos hil]
      have hos : (o ++ t.extract i (i + 1)).size = o.size + 1 := by
        rw [← size_bs, bs_append, extract_one t i hil, List.length_append, size_bs]; rfl
      have hun : unrank t.size (bs t) q = [t[i]] ++ unrank (t.size - 1) ((bs t).eraseIdx i) (q % f) := by
        have h := unrank_step (m := t.size - 1) (left := bs t) (q := q) (i := i) (by rw [HI.out, Hf.out]) (by rw [size_bs]; exact hil)
        rw [← hm] at h
        rw [h, bs_get t i hil, Hf.out]
      have hq2 : q % f < factN (t.size - 1) := by rw [← Hf.out]; exact Nat.mod_lt _ (by omega)
      go_roundw
      case rel =>
        refine ⟨q % f, _, _, _, val_i (by rw [Int.natCast_emod]), rfl, rfl, by omega, by have := HQ1.2.1; omega, ⟨by rw [hts]; exact hq2, by rw [hts, hos]; have := HQ1.2.1; omega, ?_⟩, World.drewN_drewN _ _ _⟩
        rw [hts, bs_append, extract_one t i hil, bs_erase t i hil, List.append_assoc, ← hun]
        exact HQ1.2.2
      case measure => simp only [strLen]; omega
    · have hp : (t.size : Int) ≤ 0 := by omega
      have E : Hid (mkS (unrank n.toNat (roundsL n.toNat) k.toNat) = o) := by
        unfold Hid
        have := HQ.out.2.2
        rw [show t.size = 0 by omega] at this
        simp only [unrank, List.append_nil] at this
        rw [← this, mkS_bs]
      clear hpos
      go_wp2
      go_ret2
      exact ⟨ret_sb E.out, _, rfl⟩
theorem wr_setCells (w : World) (g o : Nat) (vs : List Value) : Wr g (g + 1) w (w.setCells g o vs) := by
  have h := World.keptBut_setCells g (may := fun p => p.block = g) vs o w (fun _ _ => rfl)
  refine ⟨h.1, ?_, h.2.1, ?_, fun k hk ho => World.heap_setCells_other w g o vs hk (by omega)⟩
  · induction vs generalizing o w with
    | nil => rfl
    | cons v t ih => exact (ih (w.setCell ⟨g, o, none⟩ v) (o + 1) (World.keptBut_setCells g (may := fun p => p.block = g) t (o + 1) _ (fun _ _ => rfl))).trans rfl
  · have : (w.setCells g o vs).heap.size = w.heap.size := by
      clear h
      induction vs generalizing o w with
      | nil => rfl
      | cons v t ih => exact (ih (w.setCell ⟨g, o, none⟩ v) (o + 1)).trans (by simp)
    omega
theorem Mem.wr {w w' : World} {g lo hi : Nat} {xs : List Value} (h : Mem w g xs) (hg : g < w.heap.size) (hw : Wr lo hi w w') (hd : g < lo ∨ hi ≤ g) : Mem w' g xs := fun j v hv => by
  have := h j v hv
  have hb := hw.block g hg hd
  exact ⟨(World.cell?_of_block (a := ⟨g, j, none⟩) hb).trans this.1, (World.frozen?_of_block (a := ⟨g, j, none⟩) hb).trans this.2⟩
/-- the cells behind place i moved one to the left -/
theorem mem_erase {w : World} {g : Nat} {l : List UInt8} {i : Nat} (h : Mem w g (u8s l)) (hi : i < l.length) : Mem (w.setCells g i (u8s (l.drop (i + 1)))) g (u8s (l.eraseIdx i)) := by
  intro j v hv
  have hlen : (u8s (l.drop (i + 1))).length = l.length - (i + 1) := by rw [u8s_length, List.length_drop]
  have hj : j < l.length - 1 := by
    have := (List.getElem?_eq_some_iff.1 hv).1
    rw [u8s_length, List.length_eraseIdx, if_pos hi] at this; exact this
  rw [World.frozen?_setCells]
  refine ⟨?_, h.free (by rw [u8s_length]; omega)⟩
  by_cases hji : j < i
  · rw [World.cell?_setCells_out g _ _ _ _ (fun _ _ => .inl hji), h.byte (show j < l.length by omega), ← hv]
    simp only [u8s, List.getElem?_map, List.getElem?_eraseIdx, if_pos hji, List.getElem?_eq_getElem (show j < l.length by omega), Option.map_some]
  · obtain ⟨d, rfl⟩ : ∃ d, j = i + d := ⟨j - i, by omega⟩
    have hd : d < (u8s (l.drop (i + 1))).length := by omega
    rw [World.cell?_setCells_in g _ _ _ (fun m hm => by rw [h.get (by rw [u8s_length]; omega)]; rfl) d hd, ← hv]
    simp only [u8s, List.getElem_map, List.getElem?_map, List.getElem?_eraseIdx, if_neg hji, List.getElem_drop, List.getElem?_eq_getElem (show i + d + 1 < l.length by omega), Option.map_some]
    simp only [show i + 1 + d = i + d + 1 by omega]

set_option maxHeartbeats 2000000 in
set_option maxRecDepth 100000 in
theorem rowOf_any (n k : Int) (w : World) (h3 : 3 ≤ n) (h8 : n ≤ 8) (hk0 : 0 ≤ k) (hk : k < (factN n.toNat : Nat)) :
    Calls Try.prog 50 #[.int .i64 n, .int .i64 k] w fun e w' => e = .returned (.string (mkS (unrank n.toNat (roundsL n.toNat) k.toNat))) ∧ Below w.heap.size w w' := by
  obtain ⟨i0, hi0, hz0, hz1, hz2⟩ := info_parts info_u8
  obtain ⟨r, hr⟩ : ∃ r : ByteArray, r = mkS (roundsL n.toNat) := ⟨_, rfl⟩
  have hrC : ∀ W, Calls Try.prog 46 #[.int .i64 n] W fun e w' => e = .returned (.string r) ∧ W = w' := fun W => by rw [hr]; exact rounds_any n W (by omega) h8
  have HrC := Lib.hid hrC
  have hrb : bs r = roundsL n.toNat := by rw [hr, bs_mkS]
  have hrs : (r.size : Int) = n := by rw [← size_bs, hrb, roundsL_length]; omega
  have Hrs := Lib.hid hrs
  have Hrb := Lib.hid hrb
  have HK := Lib.hid hk
  obtain ⟨cap, w1, hcv, hmem, hbel, hlt1, hcap, hcapm'⟩ := bytes_made2 (P := Try.prog) w 9 64 5 r Try.underlying9 Try.underlying64 Try.underlying5
  have Hmem := Lib.hid hmem
  have Hbel := Lib.hid hbel
  have r8 : r.size ≤ 8 := by omega
  have hcapm := hcapm' (by unfold maxLen; omega)
  have hcapi : (cap : Int) ≤ 9223372036854775807 := by unfold maxLen at hcapm; omega
  clear hcapm'
  clear hrC hrb hrs hr hk hmem hbel
  go_enter Try.func50, Try.ntmps50
  go_wp2_with (go_at_call 46; refine (HrC.out _).mono ?_; rintro e w' ⟨rfl, rfl⟩)
  go_loopw [1, 5, 6, 7] (fun kk left out ii wr => ∃ (q m : Nat) (l : List UInt8) (A : Option Addr) (no c : Nat) (o : List UInt8), kk = .int .i64 q ∧ left = .slice (some ⟨w.heap.size, 0, none⟩) m cap ∧ out = .slice A no c ∧ ii = .int .i64 m ∧ m ≤ r.size ∧ no ≤ 8 ∧ Hid (l.length = m ∧ o.length = no ∧ no + m = n.toNat ∧ q < factN m ∧ o ++ unrank m l q = unrank n.toNat (roundsL n.toNat) k.toNat) ∧ Hid (Mem wr w.heap.size (u8s l)) ∧ Hid (Own wr 5 (w.heap.size + 1) wr.heap.size A no c (u8s o)) ∧ Hid (Below w.heap.size w wr) ∧ w.heap.size < wr.heap.size) (fun _ _ _ ii _ => (intOf ii).toNat)
  case atStart =>
    refine ⟨k.toNat, r.size, bs r, _, _, _, [], val_i (by omega), rfl, rfl, val_i Hrs.out.symm, Nat.le_refl _, by omega, ⟨size_bs r, rfl, by have := Hrs.out; omega, ?_, ?_⟩, ?_, ?_, ?_, ?_⟩
    · have := Hrs.out; have := HK.out; rw [show r.size = n.toNat by omega]; omega
    · have := Hrs.out; rw [Hrb.out, show r.size = n.toNat by omega]; rfl
    · exact Hmem.out.below (below_alloc _ _) hlt1
    · exact ((own_empty w1 5).mono (by omega) (Nat.le_refl _)).congr rfl
    · exact Hbel.out.trans ((below_alloc _ _).mono (by omega))
    · simp; omega
  case round =>
    obtain ⟨q, m, l, A, no, c, o, rfl, rfl, rfl, rfl, hm8, hno, HQ, HM, HO, HB, hsz⟩ := hrel
    by_cases hpos : 0 < m
    · have hp : (0 : Int) < (m : Int) := by omega
      obtain ⟨f, hf⟩ : ∃ f : Nat, f = factN (m - 1) := ⟨_, rfl⟩
      have hfC : ∀ W, Calls Try.prog 49 #[.int .i64 ((m : Int) - 1)] W fun e w' => e = .returned (.int .i64 (f : Nat)) ∧ W = w' := fun W => by
        have := factorial_any ((m : Int) - 1) W (by omega) (by omega)
        rwa [show ((m : Int) - 1).toNat = m - 1 by omega, ← hf] at this
      have HfC := Lib.hid hfC
      have hf1 : 1 ≤ f := by rw [hf]; exact factN_pos _
      have hqf : q / f < m := by
        obtain ⟨m', hm'⟩ : ∃ m', m = m' + 1 := ⟨m - 1, by omega⟩
        have := HQ.out.2.2.2.1
        rw [hm'] at this ⊢
        rw [hf, hm', Nat.add_sub_cancel]
        exact div_lt_of_fact this
      obtain ⟨i, hi⟩ : ∃ i : Nat, i = q / f := ⟨_, rfl⟩
      have hdiv : (q : Int) / (f : Int) = (i : Int) := by rw [hi, Int.natCast_ediv]
      have hil : i < m := by omega
      have hll : i < l.length := by have := HQ.out.1; omega
      have hc0 : wr.cell? ⟨w.heap.size, i, none⟩ = some (.int .u8 (l[i].toNat : Int)) := HM.out.byte hll
      have j1 : (1 : Int) ≤ (f : Int) := by omega
      have j2 : (0 : Int) ≤ (i : Int) := by omega
      have j3 : (i : Int) + 1 ≤ (m : Int) := by omega
      have j4 : (0 : Int) ≤ (i : Int) + 1 := by omega
      have j5 : (i : Int) ≤ (cap : Int) := by omega
      have j6 : (m : Int) ≤ (cap : Int) := by omega
      have hwr : IntKind.i64.wrap ((i : Int) + 1) = (i : Int) + 1 := by rw [IntKind.wrap_i64]; omega
      have hp2 : ((i : Int) + 1).toNat = i + 1 := by omega
      have HI := Lib.hid hi
      have Hf := Lib.hid hf
      clear hfC hqf hi hf
      go_wp2_with (first | (at_builtin; refine wpList_append1 wr rfl (.tmp 28) (.tmp 33) 64 rfl 5 (.int .u8 0) 1 Try.underlying64 info_u8 rfl (w.heap.size + 1) A no c (u8s o) (.int .u8 (l[i].toNat : Int)) rfl rfl rfl HO.out (by omega) (by omega) hsz ?_; intro A1 c1 w2 ho1 hw1 hsz1 hat1) | (go_at_call 49; refine (HfC.out _).mono ?_; rintro e w' ⟨rfl, rfl⟩))
      have hlm : l.length = m := HQ.out.1
      have HM2 := Lib.hid (HM.out.wr hsz hw1 (.inl (by omega)))
      obtain ⟨A0, hA, hnews⟩ : ∃ A0 : Addr, (if cap = i + 1 then some (⟨w.heap.size, 0, none⟩ : Addr) else some ⟨w.heap.size, i + 1, none⟩) = some A0 ∧ Hid (∀ j u, (u8s (l.drop (i + 1)))[j]? = some u → w2.drew.cell? (A0.add j) = some u) := by
        by_cases h : cap = i + 1
        · refine ⟨⟨w.heap.size, 0, none⟩, by simp [h], fun j u hu => ?_⟩
          have h0 : (u8s (l.drop (i + 1))).length = 0 := by rw [u8s_length, List.length_drop]; omega
          rw [List.length_eq_zero_iff.1 h0] at hu
          simp at hu
        · refine ⟨⟨w.heap.size, i + 1, none⟩, by simp [h], fun j u hu => ?_⟩
          rw [Addr.add_lit]
          refine (HM2.out (i + 1 + j) u ?_).1
          simpa [u8s] using hu
      have s1 : Hid ((u8s (l.drop (i + 1))).length = (m - (i + 1)) * 1) := by unfold Hid; rw [Nat.mul_one, u8s_length, List.length_drop, hlm]
      have s2 : Hid (∀ u ∈ u8s (l.drop (i + 1)), u.oneCell' = true) := by
        intro u hu
        obtain ⟨x, _, rfl⟩ := List.mem_map.1 hu
        rfl
      have s3 : Hid (∀ j, j < (u8s (l.drop (i + 1))).length → (w2.drew.cell? ⟨w.heap.size, 0 + i * 1 + j, none⟩).isSome = true ∧ w2.drew.frozen? ⟨w.heap.size, 0 + i * 1 + j, none⟩ = false) := by
        intro j hj
        rw [s1.out] at hj
        rw [Nat.mul_one, Nat.zero_add]
        have hl' : i + j < (u8s l).length := by rw [u8s_length]; omega
        exact ⟨by show (w2.cell? _).isSome = true; rw [HM2.out.get hl']; rfl, HM2.out.free hl'⟩
      have HO2 := Lib.hid ho1
      have HW2 := Lib.hid hw1
      have Hlm := Lib.hid hlm
      have hicap : i ≤ cap := by omega
      clear ho1 hw1 hat1 hlm hc0
      go_region_law (refine step_append_room rfl (.tmp 37) (.tmp 41) 64 rfl 5 i0 1 Try.underlying64 hi0 hz1 w.heap.size 0 i cap (by simp [Act.eval, Act.put]) A0 (m - (i + 1)) (cap - (i + 1)) (u8s (l.drop (i + 1))) (by simp [Act.eval, Act.put]) s1.out hnews.out s2.out (by omega) s3.out ?_)
      go_wp2
      have HQ1 := HQ.out
      have hml : i < l.length := hll
      have hMn : Mem ((w2.drew).setCells w.heap.size i (u8s (l.drop (i + 1)))) w.heap.size (u8s (l.eraseIdx i)) := mem_erase (w := w2.drew) HM2.out hll
      have hW := wr_setCells w2.drew w.heap.size i (u8s (l.drop (i + 1)))
      have hOn : Own ((w2.drew).setCells w.heap.size i (u8s (l.drop (i + 1)))) 5 (w.heap.size + 1) ((w2.drew).setCells w.heap.size i (u8s (l.drop (i + 1)))).heap.size A1 (no + 1) c1 (u8s (o ++ [l[i]])) := by
        refine Own.congr (Own.mono (Own.wr (w := w2.drew) HO2.out hW (.inr (Nat.le_refl _))) (Nat.le_refl _) hW.size) ?_
        simp [u8s]
      have hBn : Below w.heap.size w ((w2.drew).setCells w.heap.size i (u8s (l.drop (i + 1)))) :=
        ((HB.out.trans (HW2.out.below (by omega) HB.out.size)).drew).trans (hW.below (Nat.le_refl _) (Nat.le_trans HB.out.size (Nat.le_of_lt hsz1)))
      have hsn : w.heap.size < ((w2.drew).setCells w.heap.size i (u8s (l.drop (i + 1)))).heap.size := Nat.lt_of_lt_of_le (Nat.lt_trans hsz hsz1) hW.size
      have hun : unrank m l q = [l[i]] ++ unrank (m - 1) (l.eraseIdx i) (q % f) := by
        have h := unrank_step (m := m - 1) (left := l) (q := q) (i := i) (by rw [HI.out, Hf.out]) hll
        rw [show m - 1 + 1 = m by omega] at h
        rw [h, Hf.out]
      have hq2 : q % f < factN (i + (m - (i + 1))) := by rw [show i + (m - (i + 1)) = m - 1 by omega, ← Hf.out]; exact Nat.mod_lt _ (by omega)
      go_roundw
      case rel =>
        refine ⟨q % f, i + (m - (i + 1)), l.eraseIdx i, A1, no + 1, c1, o ++ [l[i]], val_i (by rw [Int.natCast_emod]), rfl, rfl, val_i (by omega), by omega, by have := HQ1.2.2.1; have := Hrs.out; omega, ⟨?_, ?_, ?_, hq2, ?_⟩, hMn, hOn, hBn, hsn⟩
        · rw [List.length_eraseIdx, if_pos hll, HQ1.1]; omega
        · rw [List.length_append, HQ1.2.1]; rfl
        · have := HQ1.2.2.1; omega
        · rw [show i + (m - (i + 1)) = m - 1 by omega, List.append_assoc, ← hun]; exact HQ1.2.2.2.2
      case measure => simp [intOf]; omega
    · have hp : (m : Int) ≤ 0 := by omega
      have hno3 : 0 < no := by have := HQ.out.2.2.1; omega
      obtain ⟨g, rfl, g1, g2, g3⟩ := HO.out.form hno3
      have hcv2 := HO.out.mem.back (P := Try.prog) 64 9 5 no c HQ.out.2.1.symm Try.underlying64 Try.underlying5 Try.underlying9
      have E : Hid (mkS (unrank n.toNat (roundsL n.toNat) k.toNat) = mkS o) := by
        unfold Hid
        have := HQ.out.2.2.2.2
        rw [show m = 0 by omega] at this
        simp only [unrank, List.append_nil] at this
        rw [← this]
      clear hpos
      go_wp2
      go_ret
      exact ⟨ret_s E.out, HB.out⟩
end Go.Proofs.Ytobidhabodkoaaa
