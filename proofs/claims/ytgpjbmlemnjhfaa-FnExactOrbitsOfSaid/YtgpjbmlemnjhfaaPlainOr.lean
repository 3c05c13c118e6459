/- Plain facts: orbits. The least labels that rows spread reach every place of an orbit in so many rounds as there are places; a search from the least place of an orbit finds just that orbit. -/
import Derived.Test.YtgpjbmlemnjhfaaPlain3
namespace Go.Proofs.Ytgpjbmlemnjhfaa
set_option linter.unusedVariables false

/-- one turn: a place and the place that a row sends it to, both at the lesser label -/
def updF (g : Nat → Nat) (F : Nat → Nat) (p : Nat) : Nat → Nat := fun q => if q = p ∨ q = g p then min (F p) (F (g p)) else F q
def passF (g : Nat → Nat) (F : Nat → Nat) : Nat → Nat → Nat
  | 0 => F
  | k + 1 => updF g (passF g F k) (k + 1)
def rndF (n : Nat) (gs : List (Nat → Nat)) (F : Nat → Nat) : Nat → Nat := gs.foldl (fun F g => passF g F n) F
theorem rndF_snoc (n : Nat) (gs : List (Nat → Nat)) (g : Nat → Nat) (F : Nat → Nat) : rndF n (gs ++ [g]) F = passF g (rndF n gs F) n := by simp [rndF]
def labF (n : Nat) (gs : List (Nat → Nat)) : Nat → Nat → Nat
  | 0 => fun p => p
  | k + 1 => rndF n gs (labF n gs k)
/-- rows send places to places, no two to one -/
def Gens (n : Nat) (gs : List (Nat → Nat)) : Prop := ∀ g ∈ gs, (∀ p, 1 ≤ p → p ≤ n → 1 ≤ g p ∧ g p ≤ n) ∧ (∀ p q, 1 ≤ p → p ≤ n → 1 ≤ q → q ≤ n → g p = g q → p = q)
/-- a set that no row leaves or enters -/
def Still (n : Nat) (gs : List (Nat → Nat)) (S : Nat → Prop) : Prop := ∀ g ∈ gs, ∀ p, 1 ≤ p → p ≤ n → (S p ↔ S (g p))
def Conn (n : Nat) (gs : List (Nat → Nat)) (p q : Nat) : Prop := ∀ S, Still n gs S → (S p ↔ S q)
theorem Conn.refl (n : Nat) (gs : List (Nat → Nat)) (p : Nat) : Conn n gs p p := fun _ _ => Iff.rfl
section
variable {n : Nat} {gs : List (Nat → Nat)} {p q r : Nat} {F : Nat → Nat}
theorem Conn.symm (h : Conn n gs p q) : Conn n gs q p := fun S hS => (h S hS).symm
theorem Conn.trans (h : Conn n gs p q) (k : Conn n gs q r) : Conn n gs p r := fun S hS => (h S hS).trans (k S hS)
theorem Conn.step {g : Nat → Nat} (hg : g ∈ gs) (h1 : 1 ≤ p) (h2 : p ≤ n) : Conn n gs p (g p) := fun S hS => hS g hg p h1 h2
structure LInv (n : Nat) (gs : List (Nat → Nat)) (F : Nat → Nat) : Prop where
  bd : ∀ p, 1 ≤ p → p ≤ n → 1 ≤ F p ∧ F p ≤ p
  conn : ∀ p, 1 ≤ p → p ≤ n → Conn n gs (F p) p
/-- no label of the class lies below -/
def Least (n : Nat) (gs : List (Nat → Nat)) (F : Nat → Nat) (p : Nat) : Prop := ∀ q, 1 ≤ q → q ≤ n → Conn n gs p q → F p ≤ q
theorem upd_le (g : Nat → Nat) (F : Nat → Nat) (p q : Nat) : updF g F p q ≤ F q := by
  unfold updF
  split
  · rename_i h; rcases h with rfl | rfl
    · exact Nat.min_le_left _ _
    · exact Nat.min_le_right _ _
  · exact Nat.le_refl _
theorem pass_le (g : Nat → Nat) (F : Nat → Nat) : ∀ k q, passF g F k q ≤ F q
  | 0, q => Nat.le_refl _
  | k + 1, q => Nat.le_trans (upd_le _ _ _ _) (pass_le g F k q)
theorem rnd_le (n : Nat) : ∀ (gs : List (Nat → Nat)) (F : Nat → Nat) (q : Nat), rndF n gs F q ≤ F q
  | [], F, q => Nat.le_refl _
  | g :: t, F, q => Nat.le_trans (rnd_le n t (passF g F n) q) (pass_le g F n q)
theorem LInv.upd {g : Nat → Nat} (h : LInv n gs F) (hg : g ∈ gs) (hG : Gens n gs) (h1 : 1 ≤ p) (h2 : p ≤ n) : LInv n gs (updF g F p) := by
  have hgp := (hG g hg).1 p h1 h2
  have b1 := h.bd p h1 h2
  have b2 := h.bd (g p) hgp.1 hgp.2
  have c1 := h.conn p h1 h2
  have c2 := (h.conn (g p) hgp.1 hgp.2).trans (Conn.step hg h1 h2).symm
  have hm : Conn n gs (min (F p) (F (g p))) p := by
    rcases Nat.le_total (F p) (F (g p)) with e | e
    · rw [Nat.min_eq_left e]; exact c1
    · rw [Nat.min_eq_right e]; exact c2
  refine ⟨fun q q1 q2 => ⟨?_, Nat.le_trans (upd_le g F p q) (h.bd q q1 q2).2⟩, fun q q1 q2 => ?_⟩
  · unfold updF
    split
    · omega
    · exact (h.bd q q1 q2).1
  · unfold updF
    split
    · rename_i e; rcases e with rfl | rfl
      · exact hm
      · exact hm.trans (Conn.step hg h1 h2)
    · exact h.conn q q1 q2
theorem LInv.pass {g : Nat → Nat} (h : LInv n gs F) (hg : g ∈ gs) (hG : Gens n gs) : ∀ k, k ≤ n → LInv n gs (passF g F k)
  | 0, _ => h
  | k + 1, hk => (h.pass hg hG k (by omega)).upd hg hG (by omega) hk
theorem LInv.rnd (hG : Gens n gs) : ∀ (l : List (Nat → Nat)) (F : Nat → Nat), (∀ g ∈ l, g ∈ gs) → LInv n gs F → LInv n gs (rndF n l F)
  | [], F, _, h => h
  | g :: t, F, hl, h => LInv.rnd hG t (passF g F n) (fun x hx => hl x (List.mem_cons_of_mem _ hx)) (h.pass (hl g List.mem_cons_self) hG n (Nat.le_refl _))
theorem LInv.lab (hG : Gens n gs) : ∀ k, LInv n gs (labF n gs k)
  | 0 => ⟨fun p h1 _ => ⟨h1, Nat.le_refl _⟩, fun p _ _ => Conn.refl _ _ _⟩
  | k + 1 => LInv.rnd hG gs _ (fun _ h => h) (LInv.lab hG k)
theorem Least.mono {F' : Nat → Nat} (h : Least n gs F p) (hle : F' p ≤ F p) : Least n gs F' p := fun q q1 q2 hc => Nat.le_trans hle (h q q1 q2 hc)
theorem Least.upd {g : Nat → Nat} (hg : g ∈ gs) (h1 : 1 ≤ p) (h2 : p ≤ n) (h : Least n gs F p ∨ Least n gs F (g p)) : Least n gs (updF g F p) p ∧ Least n gs (updF g F p) (g p) := by
  have hc := Conn.step hg h1 h2
  have e1 : updF g F p p = min (F p) (F (g p)) := by simp [updF]
  have e2 : updF g F p (g p) = min (F p) (F (g p)) := by simp [updF]
  have hb : ∀ q, 1 ≤ q → q ≤ n → Conn n gs p q → min (F p) (F (g p)) ≤ q := fun q q1 q2 hq => by
    rcases h with h | h
    · exact Nat.le_trans (Nat.min_le_left _ _) (h q q1 q2 hq)
    · exact Nat.le_trans (Nat.min_le_right _ _) (h q q1 q2 (hc.symm.trans hq))
  exact ⟨fun q q1 q2 hq => by rw [e1]; exact hb q q1 q2 hq, fun q q1 q2 hq => by rw [e2]; exact hb q q1 q2 (hc.trans hq)⟩
theorem Least.pass {g : Nat → Nat} (hg : g ∈ gs) (h1 : 1 ≤ p) (h : Least n gs F p ∨ Least n gs F (g p)) : ∀ k, p ≤ k → k ≤ n → Least n gs (passF g F k) p ∧ Least n gs (passF g F k) (g p)
  | 0, hk, _ => by omega
  | k + 1, hk, hn => by
    by_cases e : p = k + 1
    · subst e
      refine Least.upd hg (by omega) hn ?_
      rcases h with h | h
      · exact .inl (h.mono (pass_le _ _ _ _))
      · exact .inr (h.mono (pass_le _ _ _ _))
    · have := Least.pass hg h1 h k (by omega) (by omega)
      exact ⟨this.1.mono (upd_le _ _ _ _), this.2.mono (upd_le _ _ _ _)⟩
theorem Least.rnd {g : Nat → Nat} (h1 : 1 ≤ p) (h2 : p ≤ n) : ∀ (l : List (Nat → Nat)) (F : Nat → Nat), (∀ x ∈ l, x ∈ gs) → g ∈ l → (Least n gs F p ∨ Least n gs F (g p)) → Least n gs (rndF n l F) p ∧ Least n gs (rndF n l F) (g p)
  | [], F, _, hg, _ => by cases hg
  | x :: t, F, hl, hg, h => by
    have hx := hl x List.mem_cons_self
    show Least n gs (rndF n t (passF x F n)) p ∧ Least n gs (rndF n t (passF x F n)) (g p)
    rcases List.mem_cons.1 hg with e | e
    · have := Least.pass (hl g hg) h1 h n h2 (Nat.le_refl _)
      subst e
      exact ⟨this.1.mono (rnd_le _ _ _ _), this.2.mono (rnd_le _ _ _ _)⟩
    · refine Least.rnd h1 h2 t (passF x F n) (fun y hy => hl y (List.mem_cons_of_mem _ hy)) e ?_
      rcases h with h | h
      · exact .inl (h.mono (pass_le _ _ _ _))
      · exact .inr (h.mono (pass_le _ _ _ _))
/-- how many of the first k places -/
noncomputable def cntP (P : Nat → Prop) : Nat → Nat
  | 0 => 0
  | k + 1 => cntP P k + if cb (P (k + 1)) = true then 1 else 0
theorem cnt_le (P : Nat → Prop) : ∀ k, cntP P k ≤ k
  | 0 => Nat.le_refl _
  | k + 1 => by unfold cntP; have := cnt_le P k; split <;> omega
theorem cnt_mono {P Q : Nat → Prop} (h : ∀ p, P p → Q p) : ∀ k, cntP P k ≤ cntP Q k
  | 0 => Nat.le_refl _
  | k + 1 => by
    unfold cntP; have := cnt_mono h k
    by_cases hp : P (k + 1)
    · rw [if_pos (cb_true hp), if_pos (cb_true (h _ hp))]; omega
    · rw [if_neg (fun e => hp (of_cb e))]; split <;> omega
theorem cnt_lt {P Q : Nat → Prop} (h : ∀ p, P p → Q p) : ∀ k q, 1 ≤ q → q ≤ k → Q q → ¬ P q → cntP P k < cntP Q k
  | 0, q, h1, h2, _, _ => by omega
  | k + 1, q, h1, h2, hq, hp => by
    unfold cntP
    by_cases e : q = k + 1
    · subst e
      have := cnt_mono h k
      rw [if_neg (fun e => hp (of_cb e)), if_pos (cb_true hq)]; omega
    · have := cnt_lt h k q h1 (by omega) hq hp
      by_cases hp : P (k + 1)
      · rw [if_pos (cb_true hp), if_pos (cb_true (h _ hp))]; omega
      · rw [if_neg (fun e => hp (of_cb e))]; split <;> omega
/-- the least of a class is the least of all that are of its class -/
theorem exists_leastC (n : Nat) (gs : List (Nat → Nat)) : ∀ p, 1 ≤ p → p ≤ n → ∃ m, 1 ≤ m ∧ m ≤ n ∧ Conn n gs p m ∧ ∀ q, 1 ≤ q → q ≤ n → Conn n gs p q → m ≤ q := by
  intro p h1 h2
  have key : ∀ k q, q ≤ k → 1 ≤ q → q ≤ n → Conn n gs p q → ∃ m, 1 ≤ m ∧ m ≤ n ∧ Conn n gs p m ∧ ∀ q, 1 ≤ q → q ≤ n → Conn n gs p q → m ≤ q := by
    intro k
    induction k with
    | zero => intro q h1 h2; omega
    | succ k ih =>
      intro q hq h1 h2 hc
      by_cases h : ∃ r, r < q ∧ 1 ≤ r ∧ r ≤ n ∧ Conn n gs p r
      · obtain ⟨r, hr, r1, r2, hrc⟩ := h
        exact ih r (by omega) r1 r2 hrc
      · refine ⟨q, h1, h2, hc, fun r r1 r2 hrc => ?_⟩
        rcases Nat.lt_or_ge r q with h3 | h3
        · exact absurd ⟨r, h3, r1, r2, hrc⟩ h
        · exact h3
  exact key p p (Nat.le_refl _) h1 h2 (Conn.refl _ _ _)
theorem lab_grow (hG : Gens n gs) (hn : 1 ≤ n) : ∀ k, (∀ p, 1 ≤ p → p ≤ n → Least n gs (labF n gs k) p) ∨ k + 1 ≤ cntP (fun p => 1 ≤ p ∧ p ≤ n ∧ Least n gs (labF n gs k) p) n
  | 0 => by
    right
    have := cnt_lt (P := fun _ => False) (Q := fun p => 1 ≤ p ∧ p ≤ n ∧ Least n gs (labF n gs 0) p) (fun p h => h.elim) n 1 (Nat.le_refl _) hn ⟨Nat.le_refl _, hn, fun q q1 _ _ => q1⟩ (fun h => h)
    omega
  | k + 1 => by
    have hle : ∀ q, labF n gs (k + 1) q ≤ labF n gs k q := fun q => rnd_le n gs _ q
    rcases lab_grow hG hn k with h | h
    · exact .inl fun p p1 p2 => (h p p1 p2).mono (hle p)
    · by_cases hs : Still n gs (fun p => Least n gs (labF n gs k) p)
      · left
        intro p p1 p2
        obtain ⟨m, m1, m2, hc, hm⟩ := exists_leastC n gs p p1 p2
        have hb := (LInv.lab hG k).bd m m1 m2
        have hLm : Least n gs (labF n gs k) m := fun q q1 q2 hq => Nat.le_trans hb.2 (hm q q1 q2 (hc.trans hq))
        exact ((hc _ hs).2 hLm).mono (hle p)
      · right
        have hex : ∃ g, g ∈ gs ∧ ∃ p, 1 ≤ p ∧ p ≤ n ∧ ¬ (Least n gs (labF n gs k) p ↔ Least n gs (labF n gs k) (g p)) := by
          refine Classical.byContradiction fun hno => hs fun g hg p p1 p2 => Classical.byContradiction fun hne => hno ⟨g, hg, p, p1, p2, hne⟩
        obtain ⟨g, hg, p, p1, p2, hne⟩ := hex
        have hgp := (hG g hg).1 p p1 p2
        have hor : Least n gs (labF n gs k) p ∨ Least n gs (labF n gs k) (g p) := by
          refine Classical.byContradiction fun hno => hne ⟨fun h => absurd (.inl h) hno, fun h => absurd (.inr h) hno⟩
        have hr := Least.rnd p1 p2 gs (labF n gs k) (fun _ h => h) hg hor
        have hmono : ∀ q, (1 ≤ q ∧ q ≤ n ∧ Least n gs (labF n gs k) q) → (1 ≤ q ∧ q ≤ n ∧ Least n gs (labF n gs (k + 1)) q) := fun q h => ⟨h.1, h.2.1, h.2.2.mono (hle q)⟩
        have : cntP (fun p => 1 ≤ p ∧ p ≤ n ∧ Least n gs (labF n gs k) p) n < cntP (fun p => 1 ≤ p ∧ p ≤ n ∧ Least n gs (labF n gs (k + 1)) p) n := by
          by_cases hp : Least n gs (labF n gs k) p
          · exact cnt_lt hmono n (g p) hgp.1 hgp.2 ⟨hgp.1, hgp.2, hr.2⟩ fun h => hne ⟨fun _ => h.2.2, fun _ => hp⟩
          · exact cnt_lt hmono n p p1 p2 ⟨p1, p2, hr.1⟩ fun h => hp h.2.2
        omega
theorem lab_least (hG : Gens n gs) (hn : 1 ≤ n) : ∀ p, 1 ≤ p → p ≤ n → Least n gs (labF n gs n) p := by
  rcases lab_grow hG hn n with h | h
  · exact h
  · have := cnt_le (fun p => 1 ≤ p ∧ p ≤ n ∧ Least n gs (labF n gs n) p) n; omega
/-- what the labels of the places are good for -/
structure Lab (n : Nat) (gs : List (Nat → Nat)) (L : Nat → Nat) : Prop where
  bd : ∀ p, 1 ≤ p → p ≤ n → 1 ≤ L p ∧ L p ≤ p
  conn : ∀ p, 1 ≤ p → p ≤ n → Conn n gs (L p) p
  same : ∀ p q, 1 ≤ p → p ≤ n → 1 ≤ q → q ≤ n → Conn n gs p q → L p = L q
theorem lab_lab (hG : Gens n gs) (hn : 1 ≤ n) : Lab n gs (labF n gs n) := by
  have hi := LInv.lab hG (n := n) (gs := gs) n
  refine ⟨hi.bd, hi.conn, fun p q p1 p2 q1 q2 hc => ?_⟩
  have bp := hi.bd p p1 p2
  have bq := hi.bd q q1 q2
  have h1 := lab_least hG hn p p1 p2 (labF n gs n q) bq.1 (by omega) (hc.trans (hi.conn q q1 q2).symm)
  have h2 := lab_least hG hn q q1 q2 (labF n gs n p) bp.1 (by omega) (hc.symm.trans (hi.conn p p1 p2).symm)
  omega
theorem Lab.idem {L : Nat → Nat} (h : Lab n gs L) (h1 : 1 ≤ p) (h2 : p ≤ n) : L (L p) = L p := by
  have hb := h.bd p h1 h2
  exact h.same (L p) p hb.1 (by omega) h1 h2 (h.conn p h1 h2)
theorem Lab.step {L : Nat → Nat} {g : Nat → Nat} (h : Lab n gs L) (hG : Gens n gs) (hg : g ∈ gs) (h1 : 1 ≤ p) (h2 : p ≤ n) : L (g p) = L p := by
  have := (hG g hg).1 p h1 h2
  exact (h.same p (g p) h1 h2 this.1 this.2 (Conn.step hg h1 h2)).symm
/-- the places of a label, rising -/
def clsL (n : Nat) (L : Nat → Nat) (m : Nat) : List Nat := ((List.range n).map (· + 1)).filter fun p => L p == m
def orbL (n : Nat) (L : Nat → Nat) : Nat → List (List Nat)
  | 0 => []
  | k + 1 => if clsL n L (k + 1) = [] then orbL n L k else orbL n L k ++ [clsL n L (k + 1)]
theorem mem_cls {L : Nat → Nat} {m x : Nat} : x ∈ clsL n L m ↔ 1 ≤ x ∧ x ≤ n ∧ L x = m := by
  unfold clsL
  rw [List.mem_filter, List.mem_map]
  constructor
  · rintro ⟨⟨a, ha, rfl⟩, h⟩
    rw [List.mem_range] at ha
    exact ⟨by omega, by omega, by simpa using h⟩
  · rintro ⟨h1, h2, h3⟩
    exact ⟨⟨x - 1, List.mem_range.2 (by omega), by omega⟩, by simpa using h3⟩
theorem cls_rising {L : Nat → Nat} {m : Nat} : (clsL n L m).Pairwise (· < ·) := by
  unfold clsL
  refine List.Pairwise.filter _ ?_
  rw [List.pairwise_map]
  exact List.pairwise_lt_range.imp fun h => by omega
theorem cls_nodup {L : Nat → Nat} {m : Nat} : (clsL n L m).Nodup := cls_rising.imp fun h => Nat.ne_of_lt h
theorem cls_len {L : Nat → Nat} {m : Nat} : (clsL n L m).length ≤ n := by
  unfold clsL
  exact Nat.le_trans (List.length_filter_le _ _) (by simp)
theorem orb_len {L : Nat → Nat} : ∀ k, (orbL n L k).length ≤ k
  | 0 => Nat.le_refl _
  | k + 1 => by
    unfold orbL; have := orb_len (L := L) k
    split
    · omega
    · simp; omega
/-- the search from place i + 1: k places of the orbit are done, and of place k the first j rows -/
structure BInv (n : Nat) (gs : List (Nat → Nat)) (L : Nat → Nat) (i : Nat) (sn : List Bool) (orb : List Nat) (k j : Nat) : Prop where
  len : sn.length = n
  seen : ∀ q, q < n → (sn[q]? = some true ↔ (L (q + 1) ≤ i ∨ q + 1 ∈ orb))
  nd : orb.Nodup
  mem : ∀ x ∈ orb, 1 ≤ x ∧ x ≤ n ∧ L x = i + 1
  first : i + 1 ∈ orb
  kle : k ≤ orb.length
  done : ∀ a x, orb[a]? = some x → ∀ b g, gs[b]? = some g → (a < k ∨ (a = k ∧ b < j)) → sn[g x - 1]? = some true
theorem BInv.olen {L : Nat → Nat} {i k j : Nat} {sn : List Bool} {orb : List Nat} (h : BInv n gs L i sn orb k j) : orb.length ≤ n := by
  have h2 : orb.length ≤ ((List.range n).map (· + 1)).length := by
    refine List.Nodup.length_le_of_subset h.nd fun x hx => ?_
    have := h.mem x hx
    exact List.mem_map.2 ⟨x - 1, List.mem_range.2 (by omega), by omega⟩
  simpa using h2
theorem getT {l : List Bool} {q : Nat} (h : q < l.length) (hn : ¬ l[q]? = some true) : l[q]? = some false := by
  rw [List.getElem?_eq_getElem h] at hn ⊢
  cases hb : l[q] with
  | true => rw [hb] at hn; exact absurd rfl hn
  | false => rfl
theorem BInv.start {L : Nat → Nat} {i : Nat} {sn : List Bool} (hL : Lab n gs L) (hi : i < n) (hl : sn.length = n) (hs : ∀ q, q < n → (sn[q]? = some true ↔ L (q + 1) ≤ i)) (h0 : ¬ sn[i]? = some true) : BInv n gs L i (sn.set i true) [i + 1] 0 0 := by
  have hb := hL.bd (i + 1) (by omega) (by omega)
  have hLi : L (i + 1) = i + 1 := by have := mt (hs i hi).2 h0; omega
  refine ⟨by simpa using hl, fun q hq => ?_, by simp, fun x hx => ?_, by simp, by simp, fun a x _ b g _ h => by omega⟩
  · rw [List.getElem?_set]
    by_cases e : i = q
    · subst e; simp [hl, hi]
    · rw [if_neg e, hs q hq]
      simp; intro e2; omega
  · have : x = i + 1 := by simpa using hx
    subst this; exact ⟨by omega, by omega, hLi⟩
/-- one row more, the place it sends to was seen -/
theorem BInv.old {L : Nat → Nat} {i k j x : Nat} {sn : List Bool} {orb : List Nat} {g : Nat → Nat} (h : BInv n gs L i sn orb k j) (hx : orb[k]? = some x) (hg : gs[j]? = some g) (hs : sn[g x - 1]? = some true) : BInv n gs L i sn orb k (j + 1) :=
  ⟨h.len, h.seen, h.nd, h.mem, h.first, h.kle, fun a y hy b f hf hab => by
    by_cases e : a = k ∧ b = j
    · obtain ⟨rfl, rfl⟩ := e
      rw [hx] at hy; injection hy with hy; subst hy
      rw [hg] at hf; injection hf with hf; subst hf
      exact hs
    · exact h.done a y hy b f hf (by omega)⟩
/-- one row more, the place it sends to is new -/
theorem BInv.new {L : Nat → Nat} {i k j x : Nat} {sn : List Bool} {orb : List Nat} {g : Nat → Nat} (h : BInv n gs L i sn orb k j) (hL : Lab n gs L) (hG : Gens n gs) (hx : orb[k]? = some x) (hg : gs[j]? = some g) (hs : ¬ sn[g x - 1]? = some true) : BInv n gs L i (sn.set (g x - 1) true) (orb ++ [g x]) k (j + 1) := by
  have hxm := h.mem x (List.mem_of_getElem? hx)
  have hgm := List.mem_of_getElem? hg
  have hgx := (hG g hgm).1 x hxm.1 hxm.2.1
  have hkl := (List.getElem?_eq_some_iff.1 hx).1
  have hlt : g x - 1 < sn.length := by rw [h.len]; omega
  have hno := mt (h.seen (g x - 1) (by omega)).2 hs
  rw [show g x - 1 + 1 = g x by omega] at hno
  have hset : ∀ q, (sn.set (g x - 1) true)[q]? = some true ↔ (q = g x - 1 ∨ sn[q]? = some true) := fun q => by
    rw [List.getElem?_set]
    by_cases e : g x - 1 = q
    · subst e; simp [hlt]
    · rw [if_neg e]; constructor
      · exact .inr
      · rintro (e2 | e2)
        · exact absurd e2.symm e
        · exact e2
  refine ⟨by simpa using h.len, fun q hq => ?_, ?_, ?_, ?_, ?_, ?_⟩
  · rw [hset, h.seen q hq, List.mem_append, List.mem_singleton]
    constructor
    · rintro (e | e | e)
      · exact .inr (.inr (by omega))
      · exact .inl e
      · exact .inr (.inl e)
    · rintro (e | e | e)
      · exact .inr (.inl e)
      · exact .inr (.inr e)
      · exact .inl (by omega)
  · rw [List.nodup_append]
    refine ⟨h.nd, by simp, fun a ha b hb e => ?_⟩
    rw [List.mem_singleton] at hb
    exact hno (.inr (by rw [← hb, ← e]; exact ha))
  · intro y hy
    rcases List.mem_append.1 hy with hy | hy
    · exact h.mem y hy
    · rw [List.mem_singleton] at hy; subst hy
      exact ⟨hgx.1, hgx.2, by rw [hL.step hG hgm hxm.1 hxm.2.1]; exact hxm.2.2⟩
  · exact List.mem_append.2 (.inl h.first)
  · have := h.kle; simp; omega
  · intro a y hy b f hf hab
    have ha : a < orb.length := by omega
    rw [List.getElem?_append_left ha] at hy
    rw [hset]
    by_cases e : a = k ∧ b = j
    · obtain ⟨rfl, rfl⟩ := e
      rw [hx] at hy; injection hy with hy; subst hy
      rw [hg] at hf; injection hf with hf; subst hf
      exact .inl rfl
    · exact .inr (h.done a y hy b f hf (by omega))
theorem BInv.next {L : Nat → Nat} {i k : Nat} {sn : List Bool} {orb : List Nat} (h : BInv n gs L i sn orb k gs.length) (hk : k < orb.length) : BInv n gs L i sn orb (k + 1) 0 :=
  ⟨h.len, h.seen, h.nd, h.mem, h.first, hk, fun a y hy b f hf hab => h.done a y hy b f hf (by
    have := (List.getElem?_eq_some_iff.1 hf).1
    omega)⟩
/-- the search has ended: the orbit holds the places of the label, each once -/
theorem BInv.end_ {L : Nat → Nat} {i : Nat} {sn : List Bool} {orb : List Nat} (h : BInv n gs L i sn orb orb.length 0) (hL : Lab n gs L) (hG : Gens n gs) (x : Nat) : x ∈ orb ↔ x ∈ clsL n L (i + 1) := by
  constructor
  · intro hx
    exact mem_cls.2 (h.mem x hx)
  · intro hx
    obtain ⟨h1, h2, h3⟩ := mem_cls.1 hx
    have hcl : ∀ g ∈ gs, ∀ y ∈ orb, g y ∈ orb := fun g hg y hy => by
      obtain ⟨a, ha⟩ := List.getElem?_of_mem hy
      obtain ⟨b, hb⟩ := List.getElem?_of_mem hg
      have hym := h.mem y hy
      have hgy := (hG g hg).1 y hym.1 hym.2.1
      have := h.done a y ha b g hb (.inl (List.getElem?_eq_some_iff.1 ha).1)
      have hs := (h.seen (g y - 1) (by omega)).1 this
      rw [show g y - 1 + 1 = g y by omega, hL.step hG hg hym.1 hym.2.1, hym.2.2] at hs
      rcases hs with hs | hs
      · omega
      · exact hs
    have hst : Still n gs (fun p => p ∈ orb) := fun g hg p p1 p2 => by
      refine ⟨hcl g hg p, fun hp => ?_⟩
      have hnd : (orb.map g).Nodup := by
        rw [List.Nodup, List.pairwise_map]
        refine List.Pairwise.imp_of_mem (fun ha hb hne e => hne ?_) h.nd
        have ha := h.mem _ ha; have hb := h.mem _ hb
        exact (hG g hg).2 _ _ ha.1 ha.2.1 hb.1 hb.2.1 e
      have hsub : orb.map g ⊆ orb := fun y hy => by
        obtain ⟨z, hz, rfl⟩ := List.mem_map.1 hy; exact hcl g hg z hz
      have hmem : g p ∈ orb.map g := by
        refine Classical.byContradiction fun hno => ?_
        have : (g p :: orb.map g).length ≤ orb.length := List.Nodup.length_le_of_subset (List.nodup_cons.2 ⟨hno, hnd⟩) fun y hy => by
          rcases List.mem_cons.1 hy with rfl | hy
          · exact hp
          · exact hsub hy
        simp at this; omega
      obtain ⟨z, hz, e⟩ := List.mem_map.1 hmem
      have hzm := h.mem z hz
      have := (hG g hg).2 _ _ hzm.1 hzm.2.1 p1 p2 e
      exact this ▸ hz
    have hc := hL.conn x h1 h2
    rw [h3] at hc
    exact (hc _ hst).1 h.first
theorem BInv.perm {L : Nat → Nat} {i : Nat} {sn : List Bool} {orb : List Nat} (h : BInv n gs L i sn orb orb.length 0) (hL : Lab n gs L) (hG : Gens n gs) : orb.Perm (clsL n L (i + 1)) :=
  (List.perm_ext_iff_of_nodup h.nd cls_nodup).2 fun x => h.end_ hL hG x
theorem BInv.seen_next {L : Nat → Nat} {i : Nat} {sn : List Bool} {orb : List Nat} (h : BInv n gs L i sn orb orb.length 0) (hL : Lab n gs L) (hG : Gens n gs) : ∀ q, q < n → (sn[q]? = some true ↔ L (q + 1) ≤ i + 1) := fun q hq => by
  rw [h.seen q hq, h.end_ hL hG, mem_cls]
  constructor
  · rintro (e | e)
    · omega
    · omega
  · intro e
    by_cases e2 : L (q + 1) ≤ i
    · exact .inl e2
    · exact .inr ⟨by omega, by omega, by omega⟩
theorem cls_some {L : Nat → Nat} {i : Nat} (hL : Lab n gs L) (hi : i < n) (h : ¬ L (i + 1) ≤ i) : clsL n L (i + 1) ≠ [] := fun e => by
  have hb := hL.bd (i + 1) (by omega) (by omega)
  have : i + 1 ∈ clsL n L (i + 1) := mem_cls.2 ⟨by omega, by omega, by omega⟩
  rw [e] at this; cases this
theorem cls_none {L : Nat → Nat} {i : Nat} (hL : Lab n gs L) (hi : i < n) (h : L (i + 1) ≤ i) : clsL n L (i + 1) = [] := by
  refine List.eq_nil_iff_forall_not_mem.2 fun x hx => ?_
  obtain ⟨h1, h2, h3⟩ := mem_cls.1 hx
  have := hL.idem h1 h2
  rw [h3] at this
  omega
theorem skip_next {L : Nat → Nat} {i : Nat} {sn : List Bool} (hL : Lab n gs L) (hi : i < n) (hs : ∀ q, q < n → (sn[q]? = some true ↔ L (q + 1) ≤ i)) (h0 : sn[i]? = some true) : ∀ q, q < n → (sn[q]? = some true ↔ L (q + 1) ≤ i + 1) := fun q hq => by
  rw [hs q hq]
  have h1 := (hs i hi).1 h0
  have h2 := cls_none hL hi h1
  constructor
  · intro h; omega
  · intro h
    refine Classical.byContradiction fun hno => ?_
    have : q + 1 ∈ clsL n L (i + 1) := mem_cls.2 ⟨by omega, by omega, by omega⟩
    rw [h2] at this; cases this
end
end Go.Proofs.Ytgpjbmlemnjhfaa
