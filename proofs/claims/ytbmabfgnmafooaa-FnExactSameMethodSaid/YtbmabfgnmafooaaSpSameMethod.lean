/- SameMethod, of the reference and of the program: what each returns. -/
import Derived.Test.YtbmabfgnmafooaaWalkY
import Derived.Test.YtbmabfgnmafooaaOpenM
namespace Go.Proofs.Ytbmabfgnmafooaa
open Go.RowKit
set_option linter.unusedVariables false

noncomputable def sameL (a b : List ByteArray) : Bool := cb (a = b)
theorem sameL_get {a b : List ByteArray} (hl : a.length = b.length) (h : ∀ j, j < a.length → getS a j = getS b j) : a = b := by
  apply List.ext_getElem hl
  intro i h1 h2
  have := h i h1
  simpa [getS, List.getElem?_eq_getElem h1, List.getElem?_eq_getElem h2] using this
set_option maxRecDepth 100000 in
set_option maxHeartbeats 1000000 in
theorem l1SameS_any (A1 A2 : Option Addr) (n1 n2 c1 c2 : Nat) (ss tt : List ByteArray) (w : World) (h1 : Rd w A1 n1 (strsV ss)) (h2 : Rd w A2 n2 (strsV tt)) :
    Calls Try.prog 51 #[.slice A1 n1 c1, .slice A2 n2 c2] w fun e w' => e = .returned (.bool (sameL ss tt)) ∧ ∃ m, w' = w.drewN m := by
  have hn1 := h1.lenB
  have hn2 := h2.lenB
  have L1 := Lib.hid h1.slen
  have L2 := Lib.hid h2.slen
  have H1 := Lib.hid h1
  have H2 := Lib.hid h2
  clear h1 h2
  by_cases hnn : n1 = n2
  · subst hnn
    go_enter Try.func51, Try.ntmps51
    go_wp2
    go_loopw [13] (fun i wr => ∃ k m : Nat, k ≤ n1 ∧ i = .int .i64 k ∧ Hid (∀ j, j < k → getS ss j = getS tt j) ∧ wr = w.drewN m) (fun i _ => n1 - (intOf i).toNat)
    case atStart => exact ⟨0, 0, by omega, rfl, fun j hj => by omega, rfl⟩
    case round =>
      obtain ⟨k, m, hk, rfl, HK, rfl⟩ := hrel
      by_cases hlt : k < n1
      · obtain ⟨b1, o1, rfl, _, hcs1⟩ := H1.out.strD hlt
        obtain ⟨b2, o2, rfl, _, hcs2⟩ := H2.out.strD hlt
        have hc1 := hcs1 k hlt
        have hc2 := hcs2 k hlt
        obtain ⟨x, hx⟩ : ∃ x, x = getS ss k := ⟨_, rfl⟩
        obtain ⟨y, hy⟩ : ∃ y, y = getS tt k := ⟨_, rfl⟩
        rw [← hx] at hc1
        rw [← hy] at hc2
        have Hx := Lib.hid hx
        have Hy := Lib.hid hy
        clear hcs1 hcs2 hx hy
        have i1 : (0 : Int) ≤ (k : Int) := by omega
        have i2 : (k : Int) < (n1 : Int) := by omega
        by_cases he : x = y
        · have HK2 : Hid (∀ j, j < k + 1 → getS ss j = getS tt j) := fun j hj => by
            by_cases e : j = k
            · subst e; rw [← Hx.out, ← Hy.out]; exact he
            · exact HK.out j (by omega)
          subst he
          clear Hx Hy
          go_wp2
          go_quiet (fail)
          go_wp2
          go_roundw
          case rel => exact ⟨k + 1, _, by omega, by go_num, HK2.out, rfl⟩
          case measure => simp [intOf]; omega
        · have E : Hid (sameL ss tt = false) := cb_false fun h => he (by rw [Hx.out, Hy.out, h])
          have hneL := ne_list he
          clear Hx Hy he
          go_wp2
          go_quiet (fail)
          go_wp2
          go_ret
          exact ⟨ret_b E.out, _, World.drewN_drewN _ _ _⟩
      · have E : Hid (sameL ss tt = true) := cb_true (sameL_get (by rw [L1.out, L2.out]) fun j hj => HK.out j (by have := L1.out; omega))
        go_wp2
        go_ret
        exact ⟨ret_b E.out, _, rfl⟩
  · have E : Hid (sameL ss tt = false) := cb_false fun h => hnn (by rw [← L1.out, ← L2.out, h])
    have hne : ((n1 : Int) != (n2 : Int)) = true := by simp; omega
    clear hnn
    go_enter Try.func51, Try.ntmps51
    go_wp2
    go_ret
    exact ⟨ret_b E.out, 0, rfl⟩
set_option maxRecDepth 100000 in
set_option maxHeartbeats 1000000 in
theorem equalS_any (A1 A2 : Option Addr) (n1 n2 c1 c2 : Nat) (ss tt : List ByteArray) (w : World) (h1 : Rd w A1 n1 (strsV ss)) (h2 : Rd w A2 n2 (strsV tt)) :
    Calls Try.prog 53 #[.slice A1 n1 c1, .slice A2 n2 c2] w fun e w' => e = .returned (.bool (sameL ss tt)) ∧ ∃ m, w' = w.drewN m := by
  have hn1 := h1.lenB
  have hn2 := h2.lenB
  have L1 := Lib.hid h1.slen
  have L2 := Lib.hid h2.slen
  have H1 := Lib.hid h1
  have H2 := Lib.hid h2
  clear h1 h2
  by_cases hnn : n1 = n2
  · subst hnn
    go_enter Try.func53, Try.ntmps53
    go_wp2
    go_loopw [13] (fun i wr => ∃ k m : Nat, k ≤ n1 ∧ i = .int .i64 k ∧ Hid (∀ j, j < k → getS ss j = getS tt j) ∧ wr = w.drewN m) (fun i _ => n1 - (intOf i).toNat)
    case atStart => exact ⟨0, 0, by omega, rfl, fun j hj => by omega, rfl⟩
    case round =>
      obtain ⟨k, m, hk, rfl, HK, rfl⟩ := hrel
      by_cases hlt : k < n1
      · obtain ⟨b1, o1, rfl, _, hcs1⟩ := H1.out.strD hlt
        obtain ⟨b2, o2, rfl, _, hcs2⟩ := H2.out.strD hlt
        have hc1 := hcs1 k hlt
        have hc2 := hcs2 k hlt
        obtain ⟨x, hx⟩ : ∃ x, x = getS ss k := ⟨_, rfl⟩
        obtain ⟨y, hy⟩ : ∃ y, y = getS tt k := ⟨_, rfl⟩
        rw [← hx] at hc1
        rw [← hy] at hc2
        have Hx := Lib.hid hx
        have Hy := Lib.hid hy
        clear hcs1 hcs2 hx hy
        have i1 : (0 : Int) ≤ (k : Int) := by omega
        have i2 : (k : Int) < (n1 : Int) := by omega
        by_cases he : x = y
        · have HK2 : Hid (∀ j, j < k + 1 → getS ss j = getS tt j) := fun j hj => by
            by_cases e : j = k
            · subst e; rw [← Hx.out, ← Hy.out]; exact he
            · exact HK.out j (by omega)
          subst he
          clear Hx Hy
          go_wp2
          go_quiet (fail)
          go_wp2
          go_roundw
          case rel => exact ⟨k + 1, _, by omega, by go_num, HK2.out, rfl⟩
          case measure => simp [intOf]; omega
        · have E : Hid (sameL ss tt = false) := cb_false fun h => he (by rw [Hx.out, Hy.out, h])
          have hneL := ne_list he
          clear Hx Hy he
          go_wp2
          go_quiet (fail)
          go_wp2
          go_ret
          exact ⟨ret_b E.out, _, World.drewN_drewN _ _ _⟩
      · have E : Hid (sameL ss tt = true) := cb_true (sameL_get (by rw [L1.out, L2.out]) fun j hj => HK.out j (by have := L1.out; omega))
        go_wp2
        go_ret
        exact ⟨ret_b E.out, _, rfl⟩
  · have E : Hid (sameL ss tt = false) := cb_false fun h => hnn (by rw [← L1.out, ← L2.out, h])
    have hne : ((n1 : Int) != (n2 : Int)) = true := by simp; omega
    clear hnn
    go_enter Try.func53, Try.ntmps53
    go_wp2
    go_ret
    exact ⟨ret_b E.out, 0, rfl⟩
noncomputable def out_SM (a : ByteArray) (s : Int) (ss : List ByteArray) (b : ByteArray) (t : Int) (tt : List ByteArray) : Bool := cb (a = b ∧ s = t ∧ ss = tt)
set_option maxRecDepth 100000 in
set_option maxHeartbeats 1000000 in
theorem sp_SameMethod (a : ByteArray) (s : Int) (A : Option Addr) (n c : Nat) (ss : List ByteArray) (b : ByteArray) (t : Int) (B : Option Addr) (m d : Nat) (tt : List ByteArray) (W : World) (hr : Rd W A n (strsV ss)) (hr2 : Rd W B m (strsV tt)) :
    Calls Try.prog 15 #[.agg #[.string a, .int .i64 s, .slice A n c], .agg #[.string b, .int .i64 t, .slice B m d]] W fun e w' => e = .returned (.bool (out_SM a s ss b t tt)) ∧ Below W.heap.size W w' := by
  have HC : Hid (∀ W', Below W.heap.size W W' → Calls Try.prog 51 #[.slice A n c, .slice B m d] W' fun e w' => e = .returned (.bool (sameL ss tt)) ∧ ∃ k, w' = W'.drewN k) := fun W' h => l1SameS_any A B n m c d ss tt W' (hr.below h) (hr2.below h)
  clear hr hr2
  have hB2 : ∀ o1 o2, Below W.heap.size W ((W.alloc o1).alloc o2) := fun o1 o2 => (below_alloc W o1).alloc (by simp) o2
  by_cases h1 : a = b
  · by_cases h2 : s = t
    · have E : Hid (out_SM a s ss b t tt = sameL ss tt) := by
        unfold Hid out_SM sameL
        exact cb_congr ⟨fun h => h.2.2, fun h => ⟨h1, h2, h⟩⟩
      subst h1
      subst h2
      go_enter Try.func15, Try.ntmps15
      go_wp2_with (go_at_call 51; refine (HC.out _ (hB2 _ _)).mono ?_; rintro e w' ⟨rfl, k, rfl⟩)
      go_ret
      exact ⟨ret_b E.out, below_drewN' (hB2 _ _) _⟩
    · have E : Hid (out_SM a s ss b t tt = false) := cb_false fun h => h2 h.2.1
      have hne : (s == t) = false := by simpa using h2
      subst h1
      clear h2
      go_enter Try.func15, Try.ntmps15
      go_wp2
      go_ret
      exact ⟨ret_b E.out, hB2 _ _⟩
  · have E : Hid (out_SM a s ss b t tt = false) := cb_false fun h => h1 h.1
    have hneL := ne_list h1
    clear h1
    go_enter Try.func15, Try.ntmps15
    go_wp2
    go_ret
    exact ⟨ret_b E.out, hB2 _ _⟩
set_option maxRecDepth 100000 in
set_option maxHeartbeats 1000000 in
theorem im_SameMethod (a : ByteArray) (s : Int) (A : Option Addr) (n c : Nat) (ss : List ByteArray) (b : ByteArray) (t : Int) (B : Option Addr) (m d : Nat) (tt : List ByteArray) (W : World) (hr : Rd W A n (strsV ss)) (hr2 : Rd W B m (strsV tt)) :
    Calls Try.prog 17 #[.agg #[.string a, .int .i64 s, .slice A n c], .agg #[.string b, .int .i64 t, .slice B m d]] W fun e w' => e = .returned (.bool (out_SM a s ss b t tt)) ∧ Below W.heap.size W w' := by
  have HC : Hid (∀ W', Below W.heap.size W W' → Calls Try.prog 53 #[.slice A n c, .slice B m d] W' fun e w' => e = .returned (.bool (sameL ss tt)) ∧ ∃ k, w' = W'.drewN k) := fun W' h => equalS_any A B n m c d ss tt W' (hr.below h) (hr2.below h)
  clear hr hr2
  have hB2 : ∀ o1 o2, Below W.heap.size W ((W.alloc o1).alloc o2) := fun o1 o2 => (below_alloc W o1).alloc (by simp) o2
  by_cases h1 : a = b
  · by_cases h2 : s = t
    · have E : Hid (out_SM a s ss b t tt = sameL ss tt) := by
        unfold Hid out_SM sameL
        exact cb_congr ⟨fun h => h.2.2, fun h => ⟨h1, h2, h⟩⟩
      subst h1
      subst h2
      go_enter Try.func17, Try.ntmps17
      go_wp2_with (go_at_call 53; refine (HC.out _ (hB2 _ _)).mono ?_; rintro e w' ⟨rfl, k, rfl⟩)
      go_ret
      exact ⟨ret_b E.out, below_drewN' (hB2 _ _) _⟩
    · have E : Hid (out_SM a s ss b t tt = false) := cb_false fun h => h2 h.2.1
      have hne : (s == t) = false := by simpa using h2
      subst h1
      clear h2
      go_enter Try.func17, Try.ntmps17
      go_wp2
      go_ret
      exact ⟨ret_b E.out, hB2 _ _⟩
  · have E : Hid (out_SM a s ss b t tt = false) := cb_false fun h => h1 h.1
    have hneL := ne_list h1
    clear h1
    go_enter Try.func17, Try.ntmps17
    go_wp2
    go_ret
    exact ⟨ret_b E.out, hB2 _ _⟩
end Go.Proofs.Ytbmabfgnmafooaa
