/- Slices of slices of ints that came in: counted and copied, as the laws do. -/
import Derived.Test.YtgpjbmlemnjhfaaNest
import Derived.Test.YtgpjbmlemnjhfaaOpen
namespace Go.Proofs.Ytgpjbmlemnjhfaa
open Go.RowKit
set_option linter.unusedVariables false

def szGG : List (List Int) → Int → Int
  | [], l => l
  | z :: t, l => if l - z.length < 0 then -1 else szGG t (l - z.length)
def szLL (zss : List (List Int)) (l : Int) : Int := if l - zss.length < 0 then -1 else szGG zss (l - zss.length)
theorem szGG_ge : ∀ (zss : List (List Int)) (l : Int), 0 ≤ l → -1 ≤ szGG zss l
  | [], l, h => by simp only [szGG]; omega
  | z :: t, l, h => by
    simp only [szGG]
    split
    · omega
    · exact szGG_ge t _ (by omega)
theorem szGG_le : ∀ (zss : List (List Int)) (l : Int), 0 ≤ l → 0 ≤ szGG zss l → szGG zss l ≤ l ∧ (tot zss : Int) ≤ l
  | [], l, h, _ => by simp [szGG, tot]; omega
  | z :: t, l, h, h2 => by
    simp only [szGG] at h2 ⊢
    split at h2
    · omega
    · rename_i h3
      have := szGG_le t (l - z.length) (by omega) h2
      rw [if_neg h3]
      simp only [tot]
      omega
theorem szLL_ge (zss : List (List Int)) (l : Int) : -1 ≤ szLL zss l := by
  unfold szLL
  split
  · omega
  · exact szGG_ge _ _ (by omega)
theorem szLL_le {zss : List (List Int)} {l : Int} (h : 0 ≤ szLL zss l) : szLL zss l ≤ l ∧ (zss.length : Int) ≤ l ∧ (tot zss : Int) ≤ l := by
  unfold szLL at h ⊢
  split at h
  · omega
  · rename_i h3
    have := szGG_le zss _ (by omega) h
    rw [if_neg h3]
    omega
/-- what is told of a slice of slices of ints that came in -/
def IntssIn (w : World) (A : Option Addr) (n : Nat) (zss : List (List Int)) : Prop := ∃ rs, RdR w A n rs zss
theorem IntssIn.below {w w' : World} {A : Option Addr} {n : Nat} {zss : List (List Int)} (h : IntssIn w A n zss) (hb : Below w.heap.size w w') : IntssIn w' A n zss := by
  obtain ⟨rs, h⟩ := h; exact ⟨rs, h.below hb⟩
theorem IntssIn.lenB {w : World} {A : Option Addr} {n : Nat} {zss : List (List Int)} (h : IntssIn w A n zss) : n ≤ 9223372036854775807 := by
  obtain ⟨rs, h⟩ := h; exact h.o.lenB
theorem IntssIn.nlen {w : World} {A : Option Addr} {n : Nat} {zss : List (List Int)} (h : IntssIn w A n zss) : zss.length = n := by
  obtain ⟨rs, h⟩ := h; exact h.nlen
theorem intssIn_nil (w : World) : IntssIn w none 0 [] := ⟨[], ⟨Rd.nil w, rfl, fun i r z h => by simp at h⟩⟩
theorem intssIn_of_open {w : World} {a : Addr} {len cap : Nat} {A : Nat → Option Addr} {L C : Nat → Nat} {Z : Nat → List Int} {base : Nat} (hl : len ≤ cap) (hm : cap ≤ maxLen)
    (h : ∀ r, r < cap → w.cell? (a.add r) = some (.slice (A r) (L r) (C r)) ∧ L r ≤ C r ∧ C r ≤ maxLen ∧ (Z r).length = C r ∧ (∀ n ∈ Z r, (Lit.int .i64 n).wf = true) ∧ (A r = none → C r = 0) ∧
        ∀ a', A r = some a' → base ≤ a'.block ∧ ∀ c, c < C r → w.cell? (a'.add c) = some (.int .i64 ((Z r).getD c 0))) :
    ∃ zss, IntssIn w (some a) len zss := by
  refine ⟨(List.range len).map fun r => (Z r).take (L r), (List.range len).map fun r => (A r, L r, C r), ⟨?_, by simp, ?_⟩⟩
  · have h1 := rd_of_open (w := w) (a := a) (vs := (List.range cap).map fun r => rowV (A r, L r, C r)) hl hm (by simp) fun i v hv => by
      have hi : i < cap := by have := (List.getElem?_eq_some_iff.1 hv).1; simpa using this
      rw [List.getElem?_map, List.getElem?_range hi] at hv
      injection hv with hv
      rw [(h i hi).1, ← hv]; rfl
    rw [← List.map_take, List.take_range, Nat.min_eq_left hl] at h1
    unfold rowsV
    rw [List.map_map]
    exact h1
  · intro i r z hi hz
    have hil : i < len := by have := (List.getElem?_eq_some_iff.1 hi).1; simpa using this
    rw [List.getElem?_map, List.getElem?_range hil] at hi hz
    injection hi with hi
    injection hz with hz
    subst hi hz
    obtain ⟨_, h2, h3, h4, h5, h6, h7⟩ := h i (by omega)
    simp only
    cases hA : A i with
    | none =>
      have h0 : L i = 0 := by have := h6 hA; omega
      rw [h0]
      simp [intsV]
      exact Rd.nil w
    | some a' =>
      have h8 := h7 a' hA
      exact (intsIn_of_open h2 h3 h4 (fun c hc => h8.2 c (by omega)) h5).1
/-- what a call that hands back new rows leaves -/
def RetRR (zss : List (List Int)) (w : World) (e : Ending) (w' : World) : Prop :=
  ∃ A n c rs, e = .returned (.slice A n c) ∧ OwnR w' w.heap.size w'.heap.size A n c rs zss ∧ Below w.heap.size w w'
theorem info_ints0 : (Try.prog.info? 50).map (fun i => (i.zero, i.size, i.bytes)) = some (some (.slice none 0 0), 1, 24) := by kernel_rfl
theorem wx_set2 (w : World) (b r : Nat) (u : Value) : Wx (some b) w (w.setCell ⟨b, r, none⟩ u) :=
  ⟨rfl, rfl, rfl, by simp, fun k hk hne => Below.heap_setCell _ _ _ _ (by
    have : k ≠ b := fun e => hne (by rw [e])
    first | exact this | exact this.symm)⟩
/-- a new row laid at a place -/
theorem OwnR.put {w : World} {lo g n c k l2 : Nat} {rs : List Row} {zss : List (List Int)} {r : Row} {z : List Int} (h : OwnR w lo w.heap.size (some ⟨g, 0, none⟩) n c rs zss) (hk : k < rs.length)
    (hr : Own w 3 l2 w.heap.size r.1 r.2.1 r.2.2 (intsV z)) (hl : lo ≤ l2) (hnew : ∀ (i : Nat) (s : Row) (q : Nat), rs[i]? = some s → (rowV s).ownBlock = some q → q < l2) (hg : g < l2) :
    OwnR (w.setCell ⟨g, k, none⟩ (rowV r)) lo (w.setCell ⟨g, k, none⟩ (rowV r)).heap.size (some ⟨g, 0, none⟩) n c (rs.set k r) (zss.set k z) := by
  have hx := wx_set2 w g k (rowV r)
  have hs : (w.setCell ⟨g, k, none⟩ (rowV r)).heap.size = w.heap.size := by simp
  have hrl : ∀ q, (rowV r).ownBlock = some q → l2 ≤ q := fun q hq => (hr.lt q hq).1
  have hget : ∀ {i : Nat} {s : Row}, (rs.set k r)[i]? = some s → (i = k ∧ s = r) ∨ (i ≠ k ∧ rs[i]? = some s) := fun {i s} hi => by
    rw [List.getElem?_set] at hi
    by_cases e : k = i
    · rw [if_pos e, if_pos (by omega)] at hi
      injection hi with hi
      exact .inl ⟨e.symm, hi.symm⟩
    · rw [if_neg e] at hi; exact .inr ⟨fun e2 => e e2.symm, hi⟩
  refine ⟨?_, by simp [h.len], ?_, ?_, ?_⟩
  · have h2 := h.o.set_ k (rowV r)
    rw [hs]
    refine h2.congr ?_
    simp [rowsV, List.map_set]
  · intro i s y hi hy
    rw [hs]
    rcases hget hi with ⟨rfl, rfl⟩ | ⟨hne, hi⟩
    · rw [List.getElem?_set, if_pos rfl, if_pos (by rw [← h.len]; exact hk)] at hy
      injection hy with hy; subst hy
      exact (hx.own hr fun q hq e => by have := hrl q hq; injection e with e; omega).mono hl (Nat.le_refl _)
    · rw [List.getElem?_set, if_neg (fun e => hne e.symm)] at hy
      exact hx.own (h.row i s y hi hy) fun q hq e => by
        injection e with e
        exact h.apart i s q hi hq (by rw [e]; rfl)
  · intro i j s t q hij hi hj hq hq2
    rcases hget hi with ⟨e1, e2⟩ | ⟨hne, hi2⟩
    · rcases hget hj with ⟨e3, e4⟩ | ⟨hne2, hj2⟩
      · exact hij (e1.trans e3.symm)
      · have a := hnew j t q hj2 hq2; have b := hrl q (e2 ▸ hq); omega
    · rcases hget hj with ⟨e3, e4⟩ | ⟨hne2, hj2⟩
      · have a := hnew i s q hi2 hq; have b := hrl q (e4 ▸ hq2); omega
      · exact h.far i j s t q hij hi2 hj2 hq hq2
  · intro i s q hi hq hq2
    have hgq : g = q := by simpa [Value.ownBlock] using hq2
    rcases hget hi with ⟨e1, e2⟩ | ⟨hne, hi2⟩
    · have b := hrl q (e2 ▸ hq); omega
    · exact h.apart i s q hi2 hq (by rw [hgq]; rfl)
theorem set_take {α : Type} (l : List α) (z : α) {k n : Nat} (hn : l.length = n) (hk : k < l.length) : (l.take k ++ List.replicate (n - k) z).set k l[k] = l.take (k + 1) ++ List.replicate (n - (k + 1)) z := by
  have h1 := fillTo_set l z hk
  unfold fillTo at h1
  subst hn
  exact h1
set_option maxRecDepth 100000 in
set_option maxHeartbeats 1000000 in
theorem szIntS_any (A : Option Addr) (n c : Nat) (l : Int) (w : World) (h0 : 0 ≤ l) (hl : l ≤ 1048576) (hn : n ≤ 9223372036854775807) :
    Calls Try.prog 59 #[.slice A n c, .int .i64 l] w fun e w' => e = .returned (.int .i64 (if l - n < 0 then -1 else l - n)) ∧ w = w' := by
  by_cases h : l - n < 0
  · rw [if_pos h]
    go_enter Try.func59, Try.ntmps59
    go_wp2
    go_ret
    exact ⟨rfl, rfl⟩
  · rw [if_neg h]
    have h1 : 0 ≤ l - n := by omega
    go_enter Try.func59, Try.ntmps59
    go_wp2
    go_ret
    exact ⟨rfl, rfl⟩
set_option maxRecDepth 100000 in
set_option maxHeartbeats 1000000 in
theorem szIntSS_any (A : Option Addr) (n c : Nat) (zss : List (List Int)) (l : Int) (w : World) (h0 : 0 ≤ l) (hl : l ≤ 1048576) (hr : IntssIn w A n zss) :
    Calls Try.prog 28 #[.slice A n c, .int .i64 l] w fun e w' => e = .returned (.int .i64 (szLL zss l)) ∧ w = w' := by
  obtain ⟨rs, hr⟩ := hr
  have hn := hr.o.lenB
  have hnl := hr.nlen
  by_cases hneg : l - n < 0
  · have E : Hid (szLL zss l = -1) := by unfold Hid szLL; rw [hnl, if_pos hneg]
    clear hr
    go_enter Try.func28, Try.ntmps28
    go_wp2
    go_ret
    exact ⟨ret_i E.out, rfl⟩
  · have E : Hid (szLL zss l = szGG zss (l - n)) := by unfold Hid szLL; rw [hnl, if_neg hneg]
    have h1 : 0 ≤ l - n := by omega
    have Hr := Lib.hid hr
    have Hnl := Lib.hid hnl
    clear hr hnl hneg
    go_enter Try.func28, Try.ntmps28
    go_wp2
    go_loop [1, 5] (fun lv i => ∃ (k : Nat) (l2 : Int), i = .int .i64 k ∧ lv = .int .i64 l2 ∧ k ≤ n ∧ 0 ≤ l2 ∧ l2 ≤ 1048576 ∧ Hid (szGG (zss.drop k) l2 = szLL zss l)) (fun _ i => n - (intOf i).toNat)
    case atStart => exact ⟨0, l - n, rfl, rfl, by omega, h1, by omega, by unfold Hid; rw [E.out]; rfl⟩
    case round =>
      obtain ⟨k, l2, rfl, rfl, hk, hl0, hl1, HS⟩ := hrel
      by_cases hlt : k < n
      · obtain ⟨b, off, ⟨rA, rn, rc⟩, rfl, _, hrk, hc⟩ := Hr.out.o.row hlt
        obtain ⟨z, hz⟩ := get_of_len Hr.out.len hrk
        have hrow := Hr.out.row k _ z hrk hz
        have hzl : z.length = rn := hrow.ilen
        have hrn := hrow.lenB
        have hdrop : zss.drop k = z :: zss.drop (k + 1) := by
          have hkl := (List.getElem?_eq_some_iff.1 hz)
          rw [List.drop_eq_getElem_cons hkl.1, hkl.2]
        have i1 : (k : Int) < (n : Int) := by omega
        have HSz := Lib.hid (szIntS_any rA rn rc l2 w hl0 hl1 hrn)
        have hS := HS.out
        rw [hdrop] at hS
        simp only [szGG] at hS
        rw [hzl] at hS
        clear hrk hz hrow hzl hdrop HS
        by_cases h2 : l2 - rn < 0
        · have E2 : Hid (szLL zss l = -1) := by unfold Hid; rw [← hS, if_pos h2]
          rw [if_pos h2] at HSz
          clear hS
          go_wp2_with (go_at_call 59; refine HSz.out.mono ?_; rintro e w1 ⟨rfl, rfl⟩)
          go_ret
          exact ⟨ret_i E2.out, rfl⟩
        · rw [if_neg h2] at hS HSz
          have HS2 := Lib.hid hS
          have h3 : 0 ≤ l2 - rn := by omega
          clear hS
          go_wp2_with (go_at_call 59; refine HSz.out.mono ?_; rintro e w1 ⟨rfl, rfl⟩)
          go_round
          case rel => exact ⟨k + 1, l2 - rn, by go_num, rfl, by omega, h3, by omega, HS2.out⟩
          case measure => (simp [intOf] <;> omega)
      · have E2 : Hid (szLL zss l = l2) := by
          unfold Hid
          rw [← HS.out, List.drop_of_length_le (by have := Hnl.out; omega)]; rfl
        go_wp2
        go_ret
        exact ⟨ret_i E2.out, rfl⟩
set_option maxRecDepth 100000 in
set_option maxHeartbeats 2000000 in
theorem toIntSS_any (A : Option Addr) (n c : Nat) (zss : List (List Int)) (w : World) (hn : n ≤ 1048576) (ht : tot zss ≤ 1048576) (hr : IntssIn w A n zss) :
    Calls Try.prog 30 #[.slice A n c] w (RetRR zss w) := by
  obtain ⟨rs, hr⟩ := hr
  have hnl := hr.nlen
  obtain ⟨w1, hmk, hown, hbel, hlt1⟩ := make_row (P := Try.prog) w 22 50 (.slice none 0 0) 24 Try.underlying22 info_ints0 rfl (by omega) n (by omega)
  have HO0 : Hid (OwnR w1 w.heap.size w1.heap.size (some ⟨w.heap.size, 0, none⟩) n n (List.replicate n (none, 0, 0)) (List.replicate n [])) := by
    refine ⟨hown.congr (by simp [rowsV, rowV]), by simp, ?_, ?_, ?_⟩
    · intro i r z hi hz
      have h1 := List.eq_of_mem_replicate (List.mem_of_getElem? hi)
      have h2 := List.eq_of_mem_replicate (List.mem_of_getElem? hz)
      subst h1 h2
      exact Own.nil _ _ _ _
    · intro i j r s g _ hi _ hg
      have h1 := List.eq_of_mem_replicate (List.mem_of_getElem? hi)
      subst h1
      simp [rowV, Value.ownBlock] at hg
    · intro i r g hi hg
      have h1 := List.eq_of_mem_replicate (List.mem_of_getElem? hi)
      subst h1
      simp [rowV, Value.ownBlock] at hg
  have HB0 := Lib.hid hbel
  have Hr := Lib.hid hr
  have Hnl := Lib.hid hnl
  have HTot : Hid (∀ k, (h : k < zss.length) → zss[k].length ≤ 1048576) := fun k h => by
    have := tot_take zss k h
    have := tot_take_le zss (k + 1)
    omega
  clear hown hbel hr hnl ht
  go_enter Try.func30, Try.ntmps30
  go_wp2
  go_loopw [4] (fun i wr => ∃ (k : Nat) (rs2 : List Row), i = .int .i64 k ∧ k ≤ n ∧ Hid (rs2.length = n) ∧ Hid (OwnR wr w.heap.size wr.heap.size (some ⟨w.heap.size, 0, none⟩) n n rs2 (zss.take k ++ List.replicate (n - k) [])) ∧ Hid (Below w.heap.size w wr) ∧ w.heap.size < wr.heap.size) (fun i _ => n - (intOf i).toNat)
  case atStart => exact ⟨0, _, rfl, by omega, by simp [Hid], HO0.out, HB0.out, hlt1⟩
  case round =>
    clear HO0 HB0 hmk
    obtain ⟨k, rs2, rfl, hk, HL, HO, HB, hWr⟩ := hrel
    by_cases hlt : k < n
    · obtain ⟨b, off, ⟨rA, rn, rc⟩, rfl, _, hrk, hc⟩ := (Hr.out.below HB.out).o.row hlt
      obtain ⟨z, hz⟩ := get_of_len Hr.out.len hrk
      have hrow := (Hr.out.below HB.out).row k _ z hrk hz
      have hzl : z.length = rn := hrow.ilen
      have hkl := List.getElem?_eq_some_iff.1 hz
      have hrn : rn ≤ 1048576 := by have := HTot.out k hkl.1; rw [hkl.2] at this; omega
      have hst := set_take zss [] Hnl.out hkl.1
      rw [hkl.2] at hst
      have HSt := Lib.hid hst
      have HTo := Lib.hid (toIntS_any rA rn rc z wr (by omega) hrow)
      have i1 : (k : Int) < (n : Int) := by omega
      clear hrk hz hrow hkl hst hzl
      go_wp2_with fail
      refine HTo.out.mono ?_
      rintro e x5 ⟨A5, n5, c5, rfl, ho5, hb5⟩
      have hO5 : OwnR x5 w.heap.size x5.heap.size (some ⟨w.heap.size, 0, none⟩) n n rs2 (zss.take k ++ List.replicate (n - k) []) := (HO.out.below hb5).mono (Nat.le_refl _) hb5.size
      have hB5 := HB.out.trans (hb5.mono HB.out.size)
      have hlr : k < (rowsV rs2).length := by rw [rowsV_length, HL.out]; exact hlt
      obtain ⟨v0, hcz⟩ : ∃ v, x5.cell? ⟨w.heap.size, k, none⟩ = some v := ⟨_, hO5.o.mem.get hlr⟩
      have hfz := hO5.o.mem.free hlr
      have HO6 : Hid (OwnR (x5.setCell ⟨w.heap.size, k, none⟩ (.slice A5 n5 c5)) w.heap.size (x5.setCell ⟨w.heap.size, k, none⟩ (.slice A5 n5 c5)).heap.size (some ⟨w.heap.size, 0, none⟩) n n (rs2.set k (A5, n5, c5)) (zss.take (k + 1) ++ List.replicate (n - (k + 1)) [])) := by
        unfold Hid; rw [← HSt.out]
        exact hO5.put (r := (A5, n5, c5)) (l2 := wr.heap.size) (by rw [HL.out]; exact hlt) ho5 HB.out.size (fun i s q a b => (HO.out.rowlt i s q a b).2.1) hWr
      have HB6 : Hid (Below w.heap.size w (x5.setCell ⟨w.heap.size, k, none⟩ (.slice A5 n5 c5))) := hB5.setCell (Nat.le_refl _) _
      have HL6 : Hid ((rs2.set k (A5, n5, c5)).length = n) := by unfold Hid; rw [List.length_set]; exact HL.out
      have hW6 : w.heap.size < (x5.setCell ⟨w.heap.size, k, none⟩ (.slice A5 n5 c5)).heap.size := by have := hb5.size; simp; omega
      clear ho5 hb5 hO5 hB5 hlr
      go_wp2
      go_roundw
      case rel => exact ⟨k + 1, _, by go_num, by omega, HL6.out, HO6.out, HB6.out, hW6⟩
      case measure => (simp [intOf] <;> omega)
    · obtain rfl : k = n := by omega
      have E : Hid (zss.take k ++ List.replicate (k - k) [] = zss) := by
        unfold Hid
        rw [Nat.sub_self, List.take_of_length_le (by have := Hnl.out; omega)]; simp
      go_wp2
      go_ret
      exact ⟨_, _, _, rs2, rfl, HO.out.cong E.out, HB.out⟩
end Go.Proofs.Ytgpjbmlemnjhfaa
