/- GoodMethod, of the reference and of the program: what each returns. -/
import Derived.Test.YtalpkcpikmpedaaWalkO
namespace Go.Proofs.Ytalpkcpikmpedaa
open Go.RowKit
set_option linter.unusedVariables false
set_option maxRecDepth 100000 in
theorem sp_GoodMethod (nm : ByteArray) (st : Int) (A : Option Addr) (n c : Nat) (ss : List ByteArray) (W : World) (hs : nm.size ≤ 1048576) (hw : (Lit.int .i64 st).wf = true) (hr : Rd W A n (strsV ss)) (hz : ∀ s ∈ ss, s.size ≤ 1048576) (hl : ss.length ≤ 1048576) :
    Calls Try.prog 16 #[.agg #[.string nm, .int .i64 st, .slice A n c]] W fun e w' => e = .returned (.bool (methB nm st ss)) ∧ Below W.heap.size W w' := by
  have HC : Hid (∀ W', Below W.heap.size W W' → Calls Try.prog 53 #[.agg #[.string nm, .int .i64 st, .slice A n c]] W' fun e w' => e = .returned (.bool (methB nm st ss)) ∧ Below W'.heap.size W' w') := fun W' h => l4Good_any nm st A n c ss W' (by omega) (hr.below h) (fun s hs => by have := hz s hs; omega)
  clear hr hz
  go_enter Try.func16, Try.ntmps16
  go_wp2_with fail
  refine (HC.out _ (by first | exact below_alloc _ _ | exact Below.refl _ _)).mono ?_
  rintro e w1 ⟨rfl, hb1⟩
  go_wp2
  go_ret
  first | exact ⟨rfl, hb1⟩ | exact ⟨rfl, (below_alloc W _).trans (hb1.mono (by simp))⟩
theorem im_GoodMethod (nm : ByteArray) (st : Int) (A : Option Addr) (n c : Nat) (ss : List ByteArray) (W : World) (hs : nm.size ≤ 1048576) (hw : (Lit.int .i64 st).wf = true) (hr : Rd W A n (strsV ss)) (hz : ∀ s ∈ ss, s.size ≤ 1048576) (hl : ss.length ≤ 1048576) :
    Calls Try.prog 18 #[.agg #[.string nm, .int .i64 st, .slice A n c]] W fun e w' => e = .returned (.bool (methB nm st ss)) ∧ Below W.heap.size W w' :=
  GoodMethod_any nm st A n c ss W (by omega) hr (fun s hs => by have := hz s hs; omega)
end Go.Proofs.Ytalpkcpikmpedaa
