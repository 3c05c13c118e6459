/- The walks of the marking of a method. -/
import Derived.Test.YtalpkcpikmpedaaWalkN
namespace Go.Proofs.Ytalpkcpikmpedaa
open Go.RowKit
set_option linter.unusedVariables false

set_option maxRecDepth 100000 in
set_option maxHeartbeats 200000 in
theorem markMethod_any (lo hi : Nat) (nm : ByteArray) (st : Int) (A : Option Addr) (n c : Nat) (xs : List Value) (k : Int) (K : Nat) (w : World) (hK : k = (K : Int)) (h1 : 1 ≤ K) (h2 : K + n ≤ 1099511627776) (ho : Own w 9 lo hi A n c xs) (hhi : hi ≤ w.heap.size) :
    Calls Try.prog 27 #[.agg #[.string nm, .int .i64 st, .slice A n c], .int .i64 k] w fun e w' => e = .returned (.int .i64 ((K : Int) + (n : Int))) ∧ Own w' 9 lo hi A n c (strsV (marks K n)) ∧ Wr lo hi w w' := by
  have HC : Hid (Calls Try.prog 28 #[.slice A n c, .int .i64 k] (w.alloc (.cells #[.string nm, .int .i64 st, .slice A n c] 27)) fun e w' => e = .returned (.int .i64 ((K : Int) + (n : Int))) ∧ Own w' 9 lo hi A n c (strsV (marks K n)) ∧ Wr lo hi (w.alloc (.cells #[.string nm, .int .i64 st, .slice A n c] 27)) w') :=
    markStringS_any lo hi A n c xs k K _ hK h1 h2 (ho.below (below_alloc _ _))
  clear ho h1 h2 hK hhi
  go_enter Try.func27, Try.ntmps27
  go_wp2_with fail
  refine (HC.out).mono ?_
  rintro e w1 ⟨rfl, ho1, hw1⟩
  have HO := Lib.hid ho1
  have HW : Hid (Wr lo hi w w1) := (Wr.of_below (below_alloc w _)).trans hw1
  clear ho1 hw1
  go_wp2
  go_ret
  exact ⟨ret_i rfl, HO.out, HW.out⟩
end Go.Proofs.Ytalpkcpikmpedaa
