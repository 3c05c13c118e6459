/- Plain facts on rows as lists of bytes: no program in sight. -/
namespace Go.Proofs.Ytgpjbmlemnjhfaa

/-- the bytes of a string; the string of some bytes -/
def bs (s : ByteArray) : List UInt8 := s.data.toList
def mkS (l : List UInt8) : ByteArray := ⟨l.toArray⟩
theorem bs_mkS (l : List UInt8) : bs (mkS l) = l := by simp [bs, mkS]
theorem mkS_bs (s : ByteArray) : mkS (bs s) = s := by cases s; simp [bs, mkS]
theorem size_bs (s : ByteArray) : (bs s).length = s.size := by simp [bs]
theorem size_mkS (l : List UInt8) : (mkS l).size = l.length := by rw [← size_bs, bs_mkS]
theorem bs_inj {s t : ByteArray} (h : bs s = bs t) : s = t := by rw [← mkS_bs s, ← mkS_bs t, h]
theorem mkS_inj {s t : List UInt8} (h : mkS s = mkS t) : s = t := by rw [← bs_mkS s, ← bs_mkS t, h]

theorem mkS_append (x y : List UInt8) : mkS x ++ mkS y = mkS (x ++ y) := by apply bs_inj; simp [bs, mkS]
theorem bs_append (x y : ByteArray) : bs (x ++ y) = bs x ++ bs y := by simp [bs]

def IsRow (l : List UInt8) : Prop := 3 ≤ l.length ∧ l.length ≤ 8 ∧ (∀ c ∈ l, 49 ≤ c.toNat ∧ c.toNat ≤ 48 + l.length) ∧ l.Nodup
instance (l : List UInt8) : Decidable (IsRow l) := by unfold IsRow; infer_instance
def rowB (s : ByteArray) : Bool := decide (IsRow (bs s))

/-- a cell of a row, as a number from 0 on -/
def dig (c : UInt8) : Nat := c.toNat - 49
def timesL (a b : List UInt8) : List UInt8 := b.map fun c => a.getD (dig c) 0
def roundsL (n : Nat) : List UInt8 := (List.range n).map fun i => UInt8.ofNat (49 + i)
def powL (a : List UInt8) : Nat → List UInt8
  | 0 => roundsL a.length
  | k + 1 => timesL (powL a k) a

theorem u8_eq {a b : UInt8} (h : a.toNat = b.toNat) : a = b := UInt8.toNat_inj.1 h
theorem IsRow.dig_lt {l : List UInt8} (h : IsRow l) {c : UInt8} (hc : c ∈ l) : dig c < l.length := by
  have := h.2.2.1 c hc; unfold dig; omega
theorem IsRow.dig_inj {l : List UInt8} (h : IsRow l) {c e : UInt8} (hc : c ∈ l) (he : e ∈ l) (heq : dig c = dig e) : c = e := by
  have h1 := h.2.2.1 c hc; have h2 := h.2.2.1 e he
  unfold dig at heq; exact u8_eq (by omega)
theorem toNat_dig {l : List UInt8} (h : IsRow l) {c : UInt8} (hc : c ∈ l) : c.toNat = 49 + dig c := by
  have h1 := h.2.2.1 c hc; unfold dig; omega

theorem nodup_len_le {α : Type} [DecidableEq α] : ∀ {l m : List α}, l.Nodup → (∀ x ∈ l, x ∈ m) → l.length ≤ m.length
  | [], m, _, _ => by simp
  | x :: t, m, hn, hs => by
    have hx := hs x (by simp)
    have hn' := List.nodup_cons.1 hn
    have h1 : t.length ≤ (m.erase x).length := nodup_len_le hn'.2 fun y hy => by
      have hne : y ≠ x := fun e => hn'.1 (e ▸ hy)
      exact (List.mem_erase_of_ne hne).2 (hs y (by simp [hy]))
    have h2 : 0 < m.length := List.length_pos_of_mem hx
    rw [List.length_erase_of_mem hx] at h1
    simp only [List.length_cons]; omega

theorem mem_of_nodup_lt {n : Nat} {l : List Nat} (hn : l.Nodup) (hl : ∀ x ∈ l, x < n) (he : l.length = n) {j : Nat} (hj : j < n) : j ∈ l := by
  apply Classical.byContradiction
  intro h
  have h1 : (j :: l).length ≤ (List.range n).length := nodup_len_le (List.nodup_cons.2 ⟨h, hn⟩) fun x hx => by
    rcases List.mem_cons.1 hx with rfl | hx
    · simpa using hj
    · simpa using hl x hx
  simp at h1; omega

theorem nodup_map_of_inj {α β : Type} {f : α → β} : ∀ {l : List α}, l.Nodup → (∀ x ∈ l, ∀ y ∈ l, f x = f y → x = y) → (l.map f).Nodup
  | [], _, _ => by simp
  | x :: t, hn, hf => by
    have hn' := List.nodup_cons.1 hn
    rw [List.map_cons, List.nodup_cons]
    refine ⟨fun hm => ?_, nodup_map_of_inj hn'.2 fun a ha b hb => hf a (by simp [ha]) b (by simp [hb])⟩
    obtain ⟨y, hy, e⟩ := List.mem_map.1 hm
    have := hf y (by simp [hy]) x (by simp) e
    exact hn'.1 (this ▸ hy)

theorem IsRow.mem_all {l : List UInt8} (h : IsRow l) {j : Nat} (hj : j < l.length) : ∃ c ∈ l, dig c = j := by
  have hd : (l.map dig).Nodup := nodup_map_of_inj h.2.2.2 fun x hx y hy => h.dig_inj hx hy
  have := mem_of_nodup_lt (n := l.length) hd (fun x hx => by obtain ⟨c, hc, rfl⟩ := List.mem_map.1 hx; exact h.dig_lt hc) (by simp) hj
  simpa using this

theorem roundsL_length (n : Nat) : (roundsL n).length = n := by simp [roundsL]
theorem roundsL_get {n i : Nat} (h : i < n) : (roundsL n).getD i 0 = UInt8.ofNat (49 + i) := by simp [roundsL, h]
theorem isRow_rounds {n : Nat} (h3 : 3 ≤ n) (h8 : n ≤ 8) : IsRow (roundsL n) := by
  obtain rfl | rfl | rfl | rfl | rfl | rfl : n = 3 ∨ n = 4 ∨ n = 5 ∨ n = 6 ∨ n = 7 ∨ n = 8 := by omega
  all_goals decide

theorem timesL_length (a b : List UInt8) : (timesL a b).length = b.length := by simp [timesL]
theorem getD_mem {l : List UInt8} {i : Nat} (h : i < l.length) : l.getD i 0 ∈ l := by
  simp only [List.getD, List.getElem?_eq_getElem h, Option.getD_some]; exact List.getElem_mem h
theorem getD_inj {l : List UInt8} (hn : l.Nodup) {i j : Nat} (hi : i < l.length) (hj : j < l.length) (he : l.getD i 0 = l.getD j 0) : i = j := by
  simp only [List.getD, List.getElem?_eq_getElem hi, List.getElem?_eq_getElem hj, Option.getD_some] at he
  exact (List.getElem_inj hn).1 he

theorem isRow_times {a b : List UInt8} (ha : IsRow a) (hb : IsRow b) (hl : a.length = b.length) : IsRow (timesL a b) := by
  refine ⟨by rw [timesL_length]; exact hb.1, by rw [timesL_length]; exact hb.2.1, ?_, ?_⟩
  · intro c hc
    obtain ⟨e, he, rfl⟩ := List.mem_map.1 hc
    have hd := hb.dig_lt he
    have := ha.2.2.1 _ (getD_mem (l := a) (i := dig e) (by omega))
    rw [timesL_length]; omega
  · refine nodup_map_of_inj hb.2.2.2 fun x hx y hy he => ?_
    have h1 := hb.dig_lt hx; have h2 := hb.dig_lt hy
    exact hb.dig_inj hx hy (getD_inj ha.2.2.2 (by omega) (by omega) he)

theorem timesL_get {a b : List UInt8} {i : Nat} (hi : i < b.length) : (timesL a b).getD i 0 = a.getD (dig (b.getD i 0)) 0 := by
  simp [timesL, List.getElem?_eq_getElem hi]

theorem ofNat_dig {l : List UInt8} (h : IsRow l) {c : UInt8} (hc : c ∈ l) : UInt8.ofNat (49 + dig c) = c := by
  have h1 := h.2.2.1 c hc
  have h2 := h.2.1
  apply u8_eq
  rw [UInt8.toNat_ofNat', ← toNat_dig h hc]
  exact Nat.mod_eq_of_lt (by omega)

theorem rounds_times {b : List UInt8} (hb : IsRow b) : timesL (roundsL b.length) b = b := by
  unfold timesL
  conv => rhs; rw [← List.map_id b]
  refine List.map_congr_left fun c hc => ?_
  rw [roundsL_get (hb.dig_lt hc), ofNat_dig hb hc]; rfl

theorem dig_ofNat {i : Nat} (h : i < 8) : dig (UInt8.ofNat (49 + i)) = i := by
  unfold dig; rw [UInt8.toNat_ofNat', Nat.mod_eq_of_lt (by omega)]; omega

theorem times_rounds {a : List UInt8} (h8 : a.length ≤ 8) : timesL a (roundsL a.length) = a := by
  apply List.ext_getElem?
  intro i
  by_cases hi : i < a.length
  · have hd := dig_ofNat (i := i) (by omega)
    simp only [timesL, roundsL, List.map_map, List.getElem?_map, List.getElem?_range hi, Option.map_some, Function.comp, hd, List.getD, List.getElem?_eq_getElem hi, Option.getD_some]
  · simp [timesL, roundsL, hi]

theorem times_assoc {a b c : List UInt8} (hc : ∀ x ∈ c, dig x < b.length) : timesL (timesL a b) c = timesL a (timesL b c) := by
  unfold timesL
  rw [List.map_map]
  refine List.map_congr_left fun x hx => ?_
  simp only [Function.comp]
  have := hc x hx
  simp [List.getElem?_eq_getElem this]

theorem powL_row {a : List UInt8} (ha : IsRow a) : ∀ k, IsRow (powL a k) ∧ (powL a k).length = a.length
  | 0 => ⟨isRow_rounds ha.1 ha.2.1, roundsL_length _⟩
  | k + 1 => by
    have ih := powL_row ha k
    exact ⟨isRow_times ih.1 ha ih.2, timesL_length _ _⟩

/-- right multiplication by a row can be struck -/
theorem times_cancel {x y a : List UInt8} (ha : IsRow a) (hx : x.length = a.length) (hy : y.length = a.length) (h : timesL x a = timesL y a) : x = y := by
  apply List.ext_getElem (by omega)
  intro i h1 h2
  obtain ⟨c, hc, rfl⟩ := ha.mem_all (j := i) (by omega)
  have := List.map_inj_left.1 h c hc
  simpa [List.getElem?_eq_getElem h1, List.getElem?_eq_getElem h2] using this

def allL (n : Nat) : Nat → List (List UInt8)
  | 0 => [[]]
  | k + 1 => (allL n k).flatMap fun t => (List.range n).map fun d => UInt8.ofNat (49 + d) :: t
theorem allL_length (n : Nat) : ∀ k, (allL n k).length = n ^ k
  | 0 => rfl
  | k + 1 => by
    have ih := allL_length n k
    simp [allL, List.length_flatMap, Nat.pow_succ, List.map_const', ih]
theorem mem_allL {n : Nat} : ∀ {l : List UInt8}, (∀ c ∈ l, 49 ≤ c.toNat ∧ c.toNat ≤ 48 + n) → l ∈ allL n l.length
  | [], _ => by simp [allL]
  | c :: t, h => by
    have ht := mem_allL (l := t) fun e he => h e (by simp [he])
    have hc := h c (by simp)
    simp only [List.length_cons, allL, List.mem_flatMap, List.mem_map, List.mem_range]
    refine ⟨t, ht, c.toNat - 49, by omega, ?_⟩
    have e : UInt8.ofNat (49 + (c.toNat - 49)) = c := by
      apply u8_eq
      have := c.toNat_lt
      rw [UInt8.toNat_ofNat', Nat.mod_eq_of_lt (by omega)]; omega
    rw [e]

/-- k is the order of a row -/
def Ord (a : List UInt8) (k : Nat) : Prop := 0 < k ∧ powL a k = roundsL a.length ∧ ∀ j, 0 < j → j < k → powL a j ≠ roundsL a.length

theorem pow_cancel {a : List UInt8} (ha : IsRow a) : ∀ {i j : Nat}, powL a i = powL a (i + j) → powL a j = roundsL a.length
  | 0, j, h => by rw [Nat.zero_add] at h; exact h.symm
  | i + 1, j, h => by
    have e : i + 1 + j = (i + j) + 1 := by omega
    rw [e] at h
    exact pow_cancel ha (times_cancel ha (powL_row ha i).2 (powL_row ha (i + j)).2 h)

theorem exists_least {P : Nat → Prop} : ∀ n, P n → ∃ k, k ≤ n ∧ P k ∧ ∀ j, j < k → ¬ P j
  | n, h => by
    induction n using Nat.strongRecOn with
    | ind n ih =>
      by_cases hx : ∃ j, j < n ∧ P j
      · obtain ⟨j, hj, pj⟩ := hx
        obtain ⟨k, h1, h2, h3⟩ := ih j hj pj
        exact ⟨k, by omega, h2, h3⟩
      · exact ⟨n, Nat.le_refl _, h, fun j hj pj => hx ⟨j, hj, pj⟩⟩

theorem exists_ord {a : List UInt8} (ha : IsRow a) : ∃ k, Ord a k ∧ k ≤ 16777216 := by
  have hN : a.length ^ a.length ≤ 16777216 := by
    have h1 := ha.1; have h2 := ha.2.1
    generalize a.length = n at *
    obtain rfl | rfl | rfl | rfl | rfl | rfl : n = 3 ∨ n = 4 ∨ n = 5 ∨ n = 6 ∨ n = 7 ∨ n = 8 := by omega
    all_goals decide
  have hex : ∃ i j, i < j ∧ j ≤ 16777216 ∧ powL a i = powL a j := by
    apply Classical.byContradiction
    intro hno
    have hnd : ((List.range (a.length ^ a.length + 1)).map (powL a)).Nodup := by
      refine nodup_map_of_inj List.nodup_range fun x hx y hy he => ?_
      simp only [List.mem_range] at hx hy
      rcases Nat.lt_trichotomy x y with h | h | h
      · exact absurd ⟨x, y, h, by omega, he⟩ hno
      · exact h
      · exact absurd ⟨y, x, h, by omega, he.symm⟩ hno
    have hle := nodup_len_le (m := allL a.length a.length) hnd fun x hx => by
      obtain ⟨k, _, rfl⟩ := List.mem_map.1 hx
      have hr := powL_row ha k
      have := mem_allL (n := a.length) (l := powL a k) (fun c hc => by have := hr.1.2.2.1 c hc; rw [hr.2] at this; exact this)
      rwa [hr.2] at this
    rw [allL_length] at hle
    simp at hle
    omega
  obtain ⟨i, j, hij, hj, he⟩ := hex
  have hp : powL a (j - i) = roundsL a.length := pow_cancel ha (i := i) (by rw [he]; congr 1; omega)
  obtain ⟨k, h1, h2, h3⟩ := exists_least (P := fun k => 0 < k ∧ powL a k = roundsL a.length) (j - i) ⟨by omega, hp⟩
  exact ⟨k, ⟨h2.1, h2.2, fun j hj0 hjk he => h3 j hjk ⟨hj0, he⟩⟩, by omega⟩

end Go.Proofs.Ytgpjbmlemnjhfaa
