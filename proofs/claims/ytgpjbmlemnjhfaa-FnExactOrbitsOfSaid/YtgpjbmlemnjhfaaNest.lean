/- Slices of slices of ints: read, owned, marked, compared. -/
import Derived.Test.YtgpjbmlemnjhfaaKit5
import Derived.Test.YtgpjbmlemnjhfaaWalkI
import Derived.Deep.RegionHeld3
namespace Go.Proofs.Ytgpjbmlemnjhfaa
open Go.RowKit
set_option linter.unusedVariables false

/-- one row: a slice of ints -/
abbrev Row := Option Addr × Nat × Nat
def rowV (r : Row) : Value := .slice r.1 r.2.1 r.2.2
def rowsV (rs : List Row) : List Value := rs.map rowV
theorem rowsV_length (rs : List Row) : (rowsV rs).length = rs.length := by simp [rowsV]
theorem rowsV_get (rs : List Row) {i : Nat} {v : Value} (h : (rowsV rs)[i]? = some v) : ∃ r, rs[i]? = some r ∧ v = rowV r := by
  unfold rowsV at h
  rw [List.getElem?_map] at h
  cases hr : rs[i]? with
  | none => rw [hr] at h; cases h
  | some r => rw [hr] at h; injection h with h; exact ⟨r, rfl, h.symm⟩
theorem rowsV_one (rs : List Row) : ∀ u ∈ rowsV rs, u.oneCell' = true := fun u hu => by
  obtain ⟨x, _, rfl⟩ := List.mem_map.1 hu; rfl
structure RdR (w : World) (A : Option Addr) (n : Nat) (rs : List Row) (zss : List (List Int)) : Prop where
  o : Rd w A n (rowsV rs)
  len : rs.length = zss.length
  row : ∀ (i : Nat) (r : Row) (z : List Int), rs[i]? = some r → zss[i]? = some z → Rd w r.1 r.2.1 (intsV z)
structure OwnR (w : World) (lo hi : Nat) (A : Option Addr) (n c : Nat) (rs : List Row) (zss : List (List Int)) : Prop where
  o : Own w 50 lo hi A n c (rowsV rs)
  len : rs.length = zss.length
  row : ∀ (i : Nat) (r : Row) (z : List Int), rs[i]? = some r → zss[i]? = some z → Own w 3 lo hi r.1 r.2.1 r.2.2 (intsV z)
  far : ∀ (i j : Nat) (r s : Row) (g : Nat), i ≠ j → rs[i]? = some r → rs[j]? = some s → (rowV r).ownBlock = some g → (rowV s).ownBlock ≠ some g
  apart : ∀ (i : Nat) (r : Row) (g : Nat), rs[i]? = some r → (rowV r).ownBlock = some g → (Value.slice A n c).ownBlock ≠ some g
theorem get_of_len {α β : Type} {l : List α} {m : List β} (h : l.length = m.length) {i : Nat} {a : α} (hi : l[i]? = some a) : ∃ b, m[i]? = some b := by
  have := (List.getElem?_eq_some_iff.1 hi).1
  exact ⟨m[i]'(by omega), List.getElem?_eq_getElem _⟩
section
variable {w w' : World} {lo hi n c : Nat} {A : Option Addr} {rs : List Row} {zss : List (List Int)}
theorem RdR.below (h : RdR w A n rs zss) (hb : Below w.heap.size w w') : RdR w' A n rs zss := ⟨h.o.below hb, h.len, fun i r z a b => (h.row i r z a b).below hb⟩
theorem RdR.nlen (h : RdR w A n rs zss) : zss.length = n := by have := h.o.1; rw [rowsV_length] at this; rw [← h.len]; exact this
theorem OwnR.rd (h : OwnR w lo hi A n c rs zss) : RdR w A n rs zss := ⟨h.o.rd, h.len, fun i r z a b => (h.row i r z a b).rd⟩
theorem OwnR.below (h : OwnR w lo hi A n c rs zss) (hb : Below w.heap.size w w') : OwnR w' lo hi A n c rs zss := ⟨h.o.below hb, h.len, fun i r z a b => (h.row i r z a b).below hb, h.far, h.apart⟩
theorem OwnR.wr {l2 h2 : Nat} (h : OwnR w lo hi A n c rs zss) (hw : Wr l2 h2 w w') (hd : hi ≤ l2 ∨ h2 ≤ lo) : OwnR w' lo hi A n c rs zss := ⟨h.o.wr hw hd, h.len, fun i r z a b => (h.row i r z a b).wr hw hd, h.far, h.apart⟩
theorem OwnR.mono {lo' hi' : Nat} (h : OwnR w lo hi A n c rs zss) (h1 : lo' ≤ lo) (h2 : hi ≤ hi') : OwnR w lo' hi' A n c rs zss := ⟨h.o.mono h1 h2, h.len, fun i r z a b => (h.row i r z a b).mono h1 h2, h.far, h.apart⟩
theorem OwnR.drewN (h : OwnR w lo hi A n c rs zss) (k : Nat) : OwnR (w.drewN k) lo hi A n c rs zss := ⟨h.o, h.len, h.row, h.far, h.apart⟩
theorem OwnR.cong (h : OwnR w lo hi A n c rs zss) {zs2 : List (List Int)} (e : zss = zs2) : OwnR w lo hi A n c rs zs2 := e ▸ h
theorem OwnR.of_own (h : Own w 50 lo hi A n c []) : OwnR w lo hi A n c [] [] := ⟨h, rfl, fun i r z a => by simp at a, fun i j r s g _ a => by simp at a, fun i r g a => by simp at a⟩
theorem OwnR.rowlt (h : OwnR w lo hi A n c rs zss) : ∀ (i : Nat) (s : Row) (g : Nat), rs[i]? = some s → (rowV s).ownBlock = some g → lo ≤ g ∧ g < hi ∧ g < w.heap.size := fun i s g hs hg => by
  obtain ⟨z, hz⟩ := get_of_len h.len hs
  exact (h.row i s z hs hz).lt g hg
theorem snoc_get {α : Type} {l : List α} {a b : α} {i : Nat} (h : (l ++ [a])[i]? = some b) : l[i]? = some b ∨ (i = l.length ∧ b = a) := by
  rcases Nat.lt_or_ge i l.length with hi | hi
  · rw [List.getElem?_append_left hi] at h; exact .inl h
  · rw [List.getElem?_append_right hi] at h
    rcases Nat.eq_zero_or_pos (i - l.length) with h0 | h0
    · rw [h0] at h; simp at h; exact .inr ⟨by omega, h.symm⟩
    · rw [List.getElem?_eq_none (by simp; omega)] at h; cases h
/-- a new row at the end -/
theorem OwnR.push {A' : Option Addr} {c' l2 : Nat} {r : Row} {z : List Int} (h : OwnR w lo w.heap.size A n c rs zss) (hr : Own w 3 l2 w.heap.size r.1 r.2.1 r.2.2 (intsV z)) (hl : lo ≤ l2)
    (hnew : ∀ (i : Nat) (s : Row) (g : Nat), rs[i]? = some s → (rowV s).ownBlock = some g → g < l2) (hA : ∀ g, (Value.slice A n c).ownBlock = some g → g < l2)
    (ho : Own w' 50 lo w'.heap.size A' (n + 1) c' (rowsV rs ++ [rowV r])) (hx : Wx (Value.slice A n c).ownBlock w w')
    (hat : (Value.slice A' (n + 1) c').ownBlock = (Value.slice A n c).ownBlock ∨ ∃ g, A' = some ⟨g, 0, none⟩ ∧ w.heap.size ≤ g) : OwnR w' lo w'.heap.size A' (n + 1) c' (rs ++ [r]) (zss ++ [z]) := by
  have hrl : ∀ g, (rowV r).ownBlock = some g → l2 ≤ g ∧ g < w.heap.size := fun g hg => by have := hr.lt g hg; omega
  refine ⟨by rw [show rowsV (rs ++ [r]) = rowsV rs ++ [rowV r] by simp [rowsV]]; exact ho, by simp [h.len], ?_, ?_, ?_⟩
  · intro i s y hs hy
    rcases snoc_get hs with hs | ⟨e, rfl⟩
    · obtain ⟨y2, hy2⟩ := get_of_len h.len hs
      have hlt := (List.getElem?_eq_some_iff.1 hy2).1
      rw [List.getElem?_append_left hlt, hy2] at hy
      injection hy with hy; subst hy
      exact (hx.own (h.row i s y2 hs hy2) fun g hg e => h.apart i s g hs hg e.symm).mono (Nat.le_refl _) hx.size
    · subst e
      rw [h.len, List.getElem?_append_right (Nat.le_refl _), Nat.sub_self] at hy
      simp at hy; subst hy
      exact (hx.own hr fun g hg e => by have a := hrl g hg; have b := hA g e.symm; omega).mono hl hx.size
  · intro i j s t g hij hs ht hg hg2
    rcases snoc_get hs with hs' | ⟨e, e'⟩
    · rcases snoc_get ht with ht' | ⟨e2, e2'⟩
      · exact h.far i j s t g hij hs' ht' hg hg2
      · have a := hnew i s g hs' hg; have b := hrl g (e2' ▸ hg2); omega
    · rcases snoc_get ht with ht' | ⟨e2, e2'⟩
      · have a := hnew j t g ht' hg2; have b := hrl g (e' ▸ hg); omega
      · omega
  · intro i s g hs hg hg2
    have hglt : g < w.heap.size := by
      rcases snoc_get hs with hs | ⟨e, rfl⟩
      · exact (h.rowlt i s g hs hg).2.2
      · exact (hrl g hg).2
    rcases hat with e | ⟨k, rfl, hk⟩
    · rw [e] at hg2
      rcases snoc_get hs with hs | ⟨e, rfl⟩
      · exact h.apart i s g hs hg hg2
      · have a := hA g hg2; have b := hrl g hg; omega
    · simp [Value.ownBlock] at hg2; omega
/-- the bounds of an owned slice drawn tight -/
theorem Own.tight {E : TypeId} {xs : List Value} (h : Own w E lo hi A n c xs) : ∃ l u, Own w E l u A n c xs ∧ (∀ k, l ≤ k → k < u → (Value.slice A n c).ownBlock = some k) ∧ (l < u → lo ≤ l ∧ u ≤ hi) := by
  rcases h.1.2 with h0 | ⟨g, cap, cur, e, hlo, hh, r⟩
  · refine ⟨0, 0, ⟨⟨h.1.1, .inl h0⟩, fun g hg => ?_⟩, fun k _ hk => by omega, fun h => by omega⟩
    rw [h0.1] at hg; simp [Value.ownBlock] at hg
  · have hg : (Value.slice A n c).ownBlock = some g := by rw [e]; simp [Value.ownBlock]
    have hl := h.lt g hg
    refine ⟨g, g + 1, ⟨⟨h.1.1, .inr ⟨g, cap, cur, e, Nat.le_refl _, hh, r⟩⟩, fun k hk => by rw [hg] at hk; injection hk with hk; omega⟩, fun k h1 h2 => by rw [hg, show k = g by omega], fun _ => ⟨hl.1, hl.2.1⟩⟩
theorem Own.wrx {E : TypeId} {xs : List Value} {l u : Nat} (h : Own w E lo hi A n c xs) (hw : Wr l u w w') (hne : ∀ k, l ≤ k → k < u → (Value.slice A n c).ownBlock ≠ some k) : Own w' E lo hi A n c xs := by
  refine ⟨⟨h.1.1, ?_⟩, h.2⟩
  rcases h.1.2 with h0 | ⟨g, cap, cur, e, hlo, hh, r⟩
  · exact .inl h0
  · have hg : (Value.slice A n c).ownBlock = some g := by rw [e]; simp [Value.ownBlock]
    have hl := h.lt g hg
    refine .inr ⟨g, cap, cur, e, hlo, (hw.block g hl.2.2 ?_).trans hh, r⟩
    rcases Nat.lt_or_ge g l with h1 | h1
    · exact .inl h1
    · rcases Nat.lt_or_ge g u with h2 | h2
      · exact absurd hg (hne g h1 h2)
      · exact .inr h2
theorem Wr.widen {l u : Nat} (h : Wr l u w w') (hd : l < u → lo ≤ l ∧ u ≤ hi) : Wr lo hi w w' :=
  ⟨h.os, h.tape, h.output, h.size, fun k hk ho => h.block k hk (by
    rcases Nat.lt_or_ge l u with h1 | h1
    · have := hd h1; omega
    · omega)⟩
/-- one row written -/
theorem OwnR.setRow {i l u : Nat} {r : Row} {z : List Int} (h : OwnR w lo hi A n c rs zss) (hr : rs[i]? = some r) (hw : Wr l u w w') (hb : ∀ k, l ≤ k → k < u → (rowV r).ownBlock = some k) (ho : Own w' 3 lo hi r.1 r.2.1 r.2.2 (intsV z)) : OwnR w' lo hi A n c rs (zss.set i z) := by
  refine ⟨h.o.wrx hw fun k h1 h2 e => h.apart i r k hr (hb k h1 h2) e, by simp [h.len], ?_, h.far, h.apart⟩
  intro j s y hs hy
  rw [List.getElem?_set] at hy
  by_cases hij : i = j
  · subst hij
    rw [hr] at hs; injection hs with hs; subst hs
    rw [if_pos rfl] at hy
    split at hy
    · injection hy with hy; subst hy; exact ho
    · cases hy
  · rw [if_neg hij] at hy
    exact (h.row j s y hs hy).wrx hw fun k h1 h2 e => h.far i j r s k hij hr hs (hb k h1 h2) e
end
/-- the sum of the lengths; marks row by row -/
def tot : List (List Int) → Nat
  | [] => 0
  | z :: t => z.length + tot t
def markSS : Nat → List (List Int) → List (List Int)
  | _, [] => []
  | k, z :: t => markI k z.length :: markSS (k + z.length) t
theorem markSS_length : ∀ (k : Nat) (zss : List (List Int)), (markSS k zss).length = zss.length
  | _, [] => rfl
  | k, z :: t => by simp [markSS, markSS_length (k + z.length) t]
theorem tot_take : ∀ (zss : List (List Int)) (i : Nat) (h : i < zss.length), tot (zss.take (i + 1)) = tot (zss.take i) + zss[i].length
  | [], _, h => by simp at h
  | z :: t, 0, _ => by simp [tot]
  | z :: t, i + 1, h => by
    have := tot_take t i (by simpa using h)
    simp only [List.take_succ_cons, tot, List.getElem_cons_succ]; omega
theorem tot_take_le : ∀ (zss : List (List Int)) (i : Nat), tot (zss.take i) ≤ tot zss
  | [], _ => by simp [tot]
  | z :: t, 0 => by simp [tot]
  | z :: t, i + 1 => by
    have := tot_take_le t i
    simp only [List.take_succ_cons, tot]; omega
theorem markSS_get : ∀ (k : Nat) (zss : List (List Int)) (i : Nat) (h : i < zss.length), (markSS k zss)[i]? = some (markI (k + tot (zss.take i)) zss[i].length)
  | _, [], _, h => by simp at h
  | k, z :: t, 0, _ => by simp [markSS, tot]
  | k, z :: t, i + 1, h => by
    have := markSS_get (k + z.length) t i (by simpa using h)
    simp only [markSS, List.getElem?_cons_succ, this, List.take_succ_cons, tot, List.getElem_cons_succ]
    rw [show k + z.length + tot (List.take i t) = k + (z.length + tot (List.take i t)) by omega]
theorem tot_mark : ∀ (k : Nat) (zss : List (List Int)), tot (markSS k zss) = tot zss
  | _, [] => rfl
  | k, z :: t => by simp [markSS, tot, markI_length, tot_mark (k + z.length) t]
theorem Rd.row {w : World} {A : Option Addr} {n : Nat} {rs : List Row} (h : Rd w A n (rowsV rs)) {k : Nat} (hk : k < n) :
    ∃ b off r, A = some ⟨b, off, none⟩ ∧ b < w.heap.size ∧ rs[k]? = some r ∧ w.cell? ⟨b, off + k, none⟩ = some (.slice r.1 r.2.1 r.2.2) := by
  obtain ⟨b, off, e, hb, hc⟩ := h.at_ hk
  have hl := h.1
  rw [rowsV_length] at hl
  refine ⟨b, off, rs[k]'(by omega), e, hb, List.getElem?_eq_getElem _, ?_⟩
  rw [hc]; simp [rowsV, rowV]
theorem getD_of {α : Type} {l : List α} {i : Nat} {a d : α} (h : l[i]? = some a) : l.getD i d = a := by simp [List.getD_eq_getElem?_getD, h]
set_option maxRecDepth 100000 in
set_option maxHeartbeats 1000000 in
theorem eqIntSS_eq (A1 A2 : Option Addr) (n1 n2 c1 c2 : Nat) (rs1 rs2 : List Row) (zss : List (List Int)) (w : World) (h1 : RdR w A1 n1 rs1 zss) (h2 : RdR w A2 n2 rs2 zss) :
    Calls Try.prog 14 #[.slice A1 n1 c1, .slice A2 n2 c2] w fun e w' => e = .returned (.bool true) ∧ Below w.heap.size w w' := by
  obtain rfl : n1 = n2 := by rw [← h1.nlen, h2.nlen]
  obtain ⟨n, hn⟩ : ∃ n, n = n1 := ⟨_, rfl⟩
  subst hn
  have hnb := h1.o.lenB
  have H1 := Lib.hid h1
  have H2 := Lib.hid h2
  clear h1 h2
  go_enter Try.func14, Try.ntmps14
  go_wp2
  go_loopw [5] (fun i wr => ∃ k m : Nat, k ≤ n ∧ i = .int .i64 k ∧ wr = w.drewN m) (fun i _ => n - (intOf i).toNat)
  case atStart => exact ⟨0, 0, by omega, rfl, rfl⟩
  case round =>
    obtain ⟨k, m, hk, rfl, rfl⟩ := hrel
    by_cases hlt : k < n
    · obtain ⟨b1, o1, ⟨r1, m1, d1⟩, rfl, _, hr1, hc1⟩ := H1.out.o.row hlt
      obtain ⟨b2, o2, ⟨r2, m2, d2⟩, rfl, _, hr2, hc2⟩ := H2.out.o.row hlt
      obtain ⟨z, hz⟩ := get_of_len H1.out.len hr1
      have R1 := H1.out.row k _ z hr1 hz
      have R2 := H2.out.row k _ z hr2 hz
      obtain rfl : m1 = m2 := by have a := R1.ilen; have b := R2.ilen; simp only at a b; omega
      have HE : Hid (∀ m', Calls Try.prog 44 #[.slice r1 m1 d1, .slice r2 m1 d2] (w.drewN m') fun e w' => e = .returned (.bool true) ∧ ∃ m'', w' = (w.drewN m').drewN m'') := fun m' => eqIntS_same r1 r2 m1 d1 d2 z (w.drewN m') R1 R2
      have HEm := Lib.hid (HE.out (m + 1))
      have i1 : (0 : Int) ≤ (k : Int) := by omega
      have i2 : (k : Int) < (n : Int) := by omega
      have HK := Lib.hid (And.intro hc1 hc2)
      clear R1 R2 hr1 hr2 hz HE
      go_wp2
      go_region_held3 (fun w' => w'.cell? ⟨b1, o1 + k, none⟩ = some (.slice r1 m1 d1) ∧ w'.cell? ⟨b2, o2 + k, none⟩ = some (.slice r2 m1 d2))
        (first | go_keep | exact HK.out)
        (first | (go_at_call 44; refine (HEm.out).mono ?_; rintro e x ⟨rfl, m3, rfl⟩))
      go_wp2
      go_roundw
      case rel => exact ⟨k + 1, m + 1 + m3, by omega, by go_num, rfl⟩
      case measure => (simp [intOf] <;> omega)
    · go_wp2
      go_ret
      exact ⟨rfl, below_drewN' (Below.refl _ _) m⟩
set_option maxRecDepth 100000 in
set_option maxHeartbeats 1000000 in
theorem markIntSS_any (lo hi : Nat) (A : Option Addr) (n c : Nat) (rs : List Row) (zss : List (List Int)) (k : Int) (K : Nat) (w : World) (hK : k = (K : Int)) (h2 : K + tot zss ≤ 1099511627776) (ho : OwnR w lo hi A n c rs zss) :
    Calls Try.prog 15 #[.slice A n c, .int .i64 k] w fun e w' => e = .returned (.int .i64 ((K : Int) + (tot zss : Int))) ∧ OwnR w' lo hi A n c rs (markSS K zss) ∧ Wr lo hi w w' := by
  have HK := Lib.hid hK
  have Ho := Lib.hid ho
  have H2 := Lib.hid h2
  have Hn := Lib.hid ho.rd.nlen
  have hnb := ho.o.rd.lenB
  clear hK ho h2
  go_enter Try.func15, Try.ntmps15
  go_wp2
  go_loopw [1, 5] (fun kk i wr => ∃ q T : Nat, q ≤ n ∧ i = .int .i64 q ∧ kk = .int .i64 ((K : Int) + (T : Int)) ∧ Hid (T = tot (zss.take q)) ∧ Hid (OwnR wr lo hi A n c rs (setTo (fun j => (markSS K zss).getD j []) zss q)) ∧ Hid (Wr lo hi w wr)) (fun _ i _ => n - (intOf i).toNat)
  case atStart => exact ⟨0, 0, by omega, rfl, val_i (by rw [HK.out]; omega), by simp [Hid, tot], Ho.out, Wr.refl _ _ _⟩
  case round =>
    obtain ⟨q, T, hq, rfl, rfl, HT, HO, HW⟩ := hrel
    by_cases hlt : q < n
    · obtain ⟨b, off, ⟨rA, rn, rc⟩, rfl, _, hr, hc⟩ := HO.out.o.rd.row hlt
      have hql : q < zss.length := by have := Hn.out; omega
      have hz : (setTo (fun j => (markSS K zss).getD j []) zss q)[q]? = some zss[q] := by rw [setTo_get _ _ _ _ hql, if_neg (Nat.lt_irrefl _), List.getElem?_eq_getElem hql]
      have hrow := HO.out.row q _ _ hr hz
      obtain ⟨l, u, ht, hb, hd⟩ := hrow.tight
      have hlen : zss[q].length = rn := by have := hrow.len; rw [intsV_length] at this; exact this
      have hTt := tot_take zss q hql
      have hTl := tot_take_le zss (q + 1)
      have hg := markSS_get K zss q hql
      have hT := HT.out
      have h2 := H2.out
      have hM : K + T + rn ≤ 1099511627776 := by omega
      have HMk : Hid (Calls Try.prog 45 #[.slice rA rn rc, .int .i64 ((K : Int) + (T : Int))] wr fun e w' => e = .returned (.int .i64 ((K : Int) + (T : Int) + (rn : Int))) ∧ Own w' 3 l u rA rn rc (intsV (markI (K + T) rn)) ∧ Wr l u wr w') := by
        have := markIntS_any l u rA rn rc _ ((K : Int) + (T : Int)) (K + T) wr (by omega) hM ht
        rwa [show (((K + T : Nat) : Int) + (rn : Int)) = (K : Int) + (T : Int) + (rn : Int) by omega] at this
      have HNx : Hid (∀ w', Own w' 3 l u rA rn rc (intsV (markI (K + T) rn)) → Wr l u wr w' → OwnR w' lo hi (some ⟨b, off, none⟩) n c rs (setTo (fun j => (markSS K zss).getD j []) zss (q + 1)) ∧ Wr lo hi w w') := fun w' ho hw => by
        refine ⟨?_, HW.out.trans (hw.widen hd)⟩
        show OwnR w' lo hi _ n c rs ((setTo (fun j => (markSS K zss).getD j []) zss q).set q ((markSS K zss).getD q []))
        rw [getD_of hg, ← hT, hlen]
        refine HO.out.setRow hr hw hb ?_
        refine ⟨⟨ho.1.1, ?_⟩, hrow.2⟩
        rcases ho.1.2 with h0 | ⟨g, cap, cur, e, hlo, hh, r⟩
        · exact .inl h0
        · have := hrow.lt g (by rw [e]; simp [Value.ownBlock])
          exact .inr ⟨g, cap, cur, e, this.1, hh, r⟩
      have HT2 : Hid (T + rn = tot (zss.take (q + 1))) := by unfold Hid; omega
      have i1 : (q : Int) < (n : Int) := by omega
      clear ht hb hd hrow hz hr hg hTt hTl hT h2 hlen
      go_wp2_with (go_at_call 45; refine (HMk.out).mono ?_; rintro e w2 ⟨rfl, ho2, hw2⟩)
      have HX := Lib.hid (HNx.out w2 ho2 hw2)
      clear ho2 hw2
      go_roundw
      case rel => exact ⟨q + 1, T + rn, by omega, by go_num, val_i (by omega), HT2.out, HX.out.1, HX.out.2⟩
      case measure => (simp [intOf] <;> omega)
    · have hqn : q = n := by omega
      have E : Hid (OwnR wr lo hi A n c rs (markSS K zss)) := by
        refine HO.out.cong ?_
        rw [show q = zss.length by have := Hn.out; omega]
        exact setTo_all _ _ _ (markSS_length K zss) fun j hj => (getD_of (List.getElem?_eq_getElem hj)).symm
      have Et : Hid (T = tot zss) := by unfold Hid; rw [HT.out, List.take_of_length_le (by have := Hn.out; omega)]
      clear hqn
      go_wp2
      go_ret
      exact ⟨ret_i (by rw [Et.out]), E.out, HW.out⟩
set_option maxRecDepth 100000 in
set_option maxHeartbeats 1000000 in
theorem heldIntSS_any (A : Option Addr) (n c : Nat) (rs : List Row) (zss : List (List Int)) (k : Int) (K : Nat) (w : World) (hK : k = (K : Int)) (h2 : K + tot zss ≤ 1099511627776) (hr : RdR w A n rs (markSS K zss)) :
    Calls Try.prog 16 #[.slice A n c, .int .i64 k] w fun e w' => e = .returned (.int .i64 ((K : Int) + (tot zss : Int))) ∧ w = w' := by
  have HK := Lib.hid hK
  have Hr := Lib.hid hr
  have H2 := Lib.hid h2
  have Hn : Hid (zss.length = n) := by have := hr.nlen; rwa [markSS_length] at this
  have hnb := hr.o.lenB
  clear hK hr h2
  go_enter Try.func16, Try.ntmps16
  go_wp2
  go_loop [1, 5] (fun kk i => ∃ q T : Nat, q ≤ n ∧ i = .int .i64 q ∧ kk = .int .i64 ((K : Int) + (T : Int)) ∧ Hid (T = tot (zss.take q))) (fun _ i => n - (intOf i).toNat)
  case atStart => exact ⟨0, 0, by omega, rfl, val_i (by rw [HK.out]; omega), by simp [Hid, tot]⟩
  case round =>
    obtain ⟨q, T, hq, rfl, rfl, HT⟩ := hrel
    by_cases hlt : q < n
    · obtain ⟨b, off, ⟨rA, rn, rc⟩, rfl, _, hr, hc⟩ := Hr.out.o.row hlt
      have hql : q < zss.length := by have := Hn.out; omega
      have hg := markSS_get K zss q hql
      have hrow := Hr.out.row q _ _ hr hg
      have hlen : zss[q].length = rn := by have := hrow.ilen; rw [markI_length] at this; exact this
      have hTt := tot_take zss q hql
      have hTl := tot_take_le zss (q + 1)
      have hT := HT.out
      have h2 := H2.out
      rw [← hT, hlen] at hrow
      have hM : K + T + rn ≤ 1099511627776 := by omega
      have HMk : Hid (Calls Try.prog 46 #[.slice rA rn rc, .int .i64 ((K : Int) + (T : Int))] w fun e w' => e = .returned (.int .i64 ((K : Int) + (T : Int) + (rn : Int))) ∧ w = w') := by
        have := heldIntS_any rA rn rc ((K : Int) + (T : Int)) (K + T) w (by omega) hM hrow
        rwa [show (((K + T : Nat) : Int) + (rn : Int)) = (K : Int) + (T : Int) + (rn : Int) by omega] at this
      have HT2 : Hid (T + rn = tot (zss.take (q + 1))) := by unfold Hid; omega
      have i1 : (q : Int) < (n : Int) := by omega
      have i2 : (0 : Int) ≤ (K : Int) + (T : Int) + (rn : Int) := by omega
      clear hrow hr hg hTt hTl hT h2 hlen
      go_wp2_with (go_at_call 46; refine (HMk.out).mono ?_; rintro e w2 ⟨rfl, rfl⟩)
      go_round
      case rel => exact ⟨q + 1, T + rn, by omega, by go_num, val_i (by omega), HT2.out⟩
      case measure => (simp [intOf] <;> omega)
    · have Et : Hid (T = tot zss) := by unfold Hid; rw [HT.out, List.take_of_length_le (by have := Hn.out; omega)]
      go_wp2
      go_ret
      exact ⟨ret_i (by rw [Et.out]), rfl⟩
/-- what a call that hands back new rows and a bool leaves -/
def RetRB (zss : List (List Int)) (b : Bool) (w : World) (e : Ending) (w' : World) : Prop :=
  ∃ A n c rs, e = .returned (.tuple #[.slice A n c, .bool b]) ∧ OwnR w' w.heap.size w'.heap.size A n c rs zss ∧ Below w.heap.size w w'
end Go.Proofs.Ytgpjbmlemnjhfaa
