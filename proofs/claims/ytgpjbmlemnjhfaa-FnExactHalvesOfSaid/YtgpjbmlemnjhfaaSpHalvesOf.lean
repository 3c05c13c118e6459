/- HalvesOf, of the reference and of the program: what each returns. -/
import Derived.Test.YtgpjbmlemnjhfaaSpShortNotation
namespace Go.Proofs.Ytgpjbmlemnjhfaa
open Go.RowKit
set_option linter.unusedVariables false

noncomputable def okH (n : Int) (ss : List ByteArray) : Bool := chsB n ss && hvF ss
noncomputable def out_HalvesOf (n : Int) (ss : List ByteArray) : List ByteArray := if chsB n ss = true then hvA ss else []
noncomputable def outB_HalvesOf (n : Int) (ss : List ByteArray) : List ByteArray := if chsB n ss = true then hvB ss else []
theorem lenA_HalvesOf (n : Int) (ss : List ByteArray) (hl : ss.length ≤ 1048576) : (out_HalvesOf n ss).length ≤ 4194304 := by
  unfold out_HalvesOf
  split
  · have := hvA_len ss; omega
  · simp
theorem lenB_HalvesOf (n : Int) (ss : List ByteArray) (hl : ss.length ≤ 1048576) : (outB_HalvesOf n ss).length ≤ 4194304 := by
  unfold outB_HalvesOf
  split
  · have := hvB_len ss; omega
  · simp
theorem nilSSB (w w' : World) (E : TypeId) (b : Bool) (hb : Below w.heap.size w w') (e : Ending) (he : e = .returned (.tuple #[.slice none 0 0, .slice none 0 0, .bool b])) : RetSSB E [] [] b w e w' :=
  ⟨none, 0, 0, none, 0, 0, w.heap.size, w.heap.size, w.heap.size, w.heap.size, he, Own.nil _ _ _ _, Own.nil _ _ _ _, .inl (Nat.le_refl _), Nat.le_refl _, Nat.le_refl _, hb.size, hb.size, hb⟩
set_option maxRecDepth 100000 in
set_option maxHeartbeats 1000000 in
theorem sp_HalvesOf (n : Int) (A : Option Addr) (m c : Nat) (ss : List ByteArray) (W : World) (hn : (Lit.int .i64 n).wf = true) (hmc : m ≤ c) (hr : Rd W A m (strsV ss)) (hz : ∀ s ∈ ss, s.size ≤ 1048576) (hl : ss.length ≤ 1048576) :
    Calls Try.prog 18 #[.int .i64 n, .slice A m c] W (RetSSB 9 (strsV (out_HalvesOf n ss)) (strsV (outB_HalvesOf n ss)) (okH n ss) W) := by
  have HG := Lib.hid (l3List_any n A m c ss W hr (small2 hz))
  obtain ⟨b, hb⟩ : ∃ b, b = chsB n ss := ⟨_, rfl⟩
  rw [← hb] at HG
  cases b with
  | false =>
    have E : Hid (out_HalvesOf n ss = [] ∧ outB_HalvesOf n ss = [] ∧ okH n ss = false) := by unfold Hid out_HalvesOf outB_HalvesOf okH; rw [← hb]; simp
    clear hb hr hz
    go_enter Try.func18, Try.ntmps18
    go_wp2_with fail
    refine (HG.out).mono ?_
    rintro e w' ⟨rfl, rfl⟩
    go_wp2
    go_ret3
    rw [E.out.1, E.out.2.1, E.out.2.2]
    exact nilSSB _ _ _ _ (Below.refl _ _) _ rfl
  | true =>
    have hs := chs_small (n := n) (ss := ss) hb.symm
    have h40 : m ≤ 40 := by have := hr.slen; omega
    have E : Hid (out_HalvesOf n ss = hvA ss ∧ outB_HalvesOf n ss = hvB ss ∧ okH n ss = hvF ss) := by unfold Hid out_HalvesOf outB_HalvesOf okH; rw [← hb]; simp
    have HH := Lib.hid (l3Halves_any A m c ss W h40 hmc hr)
    clear hb hr hz hs
    go_enter Try.func18, Try.ntmps18
    go_wp2_with fail
    refine (HG.out).mono ?_
    rintro e w' ⟨rfl, rfl⟩
    go_wp2_with fail
    refine (HH.out).mono ?_
    rintro e x1 ⟨A1, n1, c1, A2, n2, c2, l1, h1, l2, h2, rfl, o1, o2, d1, d2, d3, d4, d5, hb1⟩
    have HX := Lib.hid (And.intro o1 (And.intro o2 (And.intro d1 (And.intro d2 (And.intro d3 (And.intro d4 (And.intro d5 hb1)))))))
    clear o1 o2 d1 d2 d3 d4 d5 hb1
    go_wp2
    go_ret3
    rw [E.out.1, E.out.2.1, E.out.2.2]
    exact ⟨A1, n1, c1, A2, n2, c2, l1, h1, l2, h2, rfl, HX.out⟩
set_option maxRecDepth 100000 in
set_option maxHeartbeats 1000000 in
theorem im_HalvesOf (n : Int) (A : Option Addr) (m c : Nat) (ss : List ByteArray) (W : World) (hn : (Lit.int .i64 n).wf = true) (hmc : m ≤ c) (hr : Rd W A m (strsV ss)) (hz : ∀ s ∈ ss, s.size ≤ 1048576) (hl : ss.length ≤ 1048576) :
    Calls Try.prog 20 #[.int .i64 n, .slice A m c] W (RetSSB 9 (strsV (out_HalvesOf n ss)) (strsV (outB_HalvesOf n ss)) (okH n ss) W) := by
  have HG := Lib.hid (areChanges_any n A m c ss W hr (small2 hz))
  obtain ⟨b, hb⟩ : ∃ b, b = chsB n ss := ⟨_, rfl⟩
  rw [← hb] at HG
  cases b with
  | false =>
    have E : Hid (out_HalvesOf n ss = [] ∧ outB_HalvesOf n ss = [] ∧ okH n ss = false) := by unfold Hid out_HalvesOf outB_HalvesOf okH; rw [← hb]; simp
    clear hb hr hz
    go_enter Try.func20, Try.ntmps20
    go_wp2_with fail
    refine (HG.out).mono ?_
    rintro e w1 ⟨rfl, hb1⟩
    have HB1 := Lib.hid hb1
    clear hb1
    go_wp2
    go_ret3
    rw [E.out.1, E.out.2.1, E.out.2.2]
    exact nilSSB _ _ _ _ HB1.out _ rfl
  | true =>
    have hs := chs_small (n := n) (ss := ss) hb.symm
    have h40 : m ≤ 40 := by have := hr.slen; omega
    have E : Hid (out_HalvesOf n ss = hvA ss ∧ outB_HalvesOf n ss = hvB ss ∧ okH n ss = hvF ss) := by unfold Hid out_HalvesOf outB_HalvesOf okH; rw [← hb]; simp
    have HH : Hid (∀ W', Below W.heap.size W W' → Calls Try.prog 50 #[.slice A m c] W' (RetSSB 9 (strsV (hvA ss)) (strsV (hvB ss)) (hvF ss) W')) := fun W' h => halves_any A m c ss W' h40 hmc (hr.below h)
    clear hb hr hz hs
    go_enter Try.func20, Try.ntmps20
    go_wp2_with fail
    refine (HG.out).mono ?_
    rintro e w1 ⟨rfl, hb0⟩
    go_wp2_with fail
    refine (HH.out _ hb0).mono ?_
    rintro e x1 ⟨A1, n1, c1, A2, n2, c2, l1, h1, l2, h2, rfl, o1, o2, d1, d2, d3, d4, d5, hb1⟩
    have HX : Hid (Own x1 9 l1 h1 A1 n1 c1 (strsV (hvA ss)) ∧ Own x1 9 l2 h2 A2 n2 c2 (strsV (hvB ss)) ∧ (h1 ≤ l2 ∨ h2 ≤ l1) ∧ W.heap.size ≤ l1 ∧ W.heap.size ≤ l2 ∧ h1 ≤ x1.heap.size ∧ h2 ≤ x1.heap.size ∧ Below W.heap.size W x1) := ⟨o1, o2, d1, Nat.le_trans hb0.size d2, Nat.le_trans hb0.size d3, d4, d5, hb0.trans (hb1.mono hb0.size)⟩
    clear o1 o2 d1 d2 d3 d4 d5 hb1 hb0
    go_wp2
    go_ret3
    rw [E.out.1, E.out.2.1, E.out.2.2]
    exact ⟨A1, n1, c1, A2, n2, c2, l1, h1, l2, h2, rfl, HX.out⟩
end Go.Proofs.Ytgpjbmlemnjhfaa
