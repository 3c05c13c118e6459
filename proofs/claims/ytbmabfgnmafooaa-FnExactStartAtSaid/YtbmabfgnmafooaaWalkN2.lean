/- The walks of the marking of a method. -/
import Derived.Test.YtbmabfgnmafooaaWalkN
namespace Go.Proofs.Ytbmabfgnmafooaa
open Go.RowKit
set_option linter.unusedVariables false

set_option maxRecDepth 100000 in
set_option maxHeartbeats 200000 in
theorem markMethod_any (lo hi : Nat) (nm : ByteArray) (st : Int) (A : Option Addr) (n c : Nat) (xs : List Value) (k : Int) (K : Nat) (w : World) (hK : k = (K : Int)) (h1 : 1 ≤ K) (h2 : K + n ≤ 1099511627776) (ho : Own w 9 lo hi A n c xs) (hhi : hi ≤ w.heap.size) :
    Calls Try.prog 21 #[.agg #[.string nm, .int .i64 st, .slice A n c], .int .i64 k] w fun e w' => e = .returned (.int .i64 ((K : Int) + (n : Int))) ∧ Own w' 9 lo hi A n c (strsV (marks K n)) ∧ Wr lo hi w w' := by
  have HC : Hid (Calls Try.prog 30 #[.slice A n c, .int .i64 k] (w.alloc (.cells #[.string nm, .int .i64 st, .slice A n c] 27)) fun e w' => e = .returned (.int .i64 ((K : Int) + (n : Int))) ∧ Own w' 9 lo hi A n c (strsV (marks K n)) ∧ Wr lo hi (w.alloc (.cells #[.string nm, .int .i64 st, .slice A n c] 27)) w') :=
    markStringS_any lo hi A n c xs k K _ hK h1 h2 (ho.below (below_alloc _ _))
  clear ho h1 h2 hK hhi
  go_enter Try.func21, Try.ntmps21
  go_wp2_with fail
  refine (HC.out).mono ?_
  rintro e w1 ⟨rfl, ho1, hw1⟩
  have HO := Lib.hid ho1
  have HW : Hid (Wr lo hi w w1) := (Wr.of_below (below_alloc w _)).trans hw1
  clear ho1 hw1
  go_wp2
  go_ret
  exact ⟨ret_i rfl, HO.out, HW.out⟩
set_option maxRecDepth 100000 in
set_option maxHeartbeats 200000 in
theorem heldMethod_any (nm : ByteArray) (st : Int) (A : Option Addr) (n c : Nat) (k : Int) (K : Nat) (w : World) (hK : k = (K : Int)) (h1 : 1 ≤ K) (h2 : K + n ≤ 1099511627776) (hr : Rd w A n (strsV (marks K n))) :
    Calls Try.prog 22 #[.agg #[.string nm, .int .i64 st, .slice A n c], .int .i64 k] w fun e w' => e = .returned (.int .i64 ((K : Int) + (n : Int))) ∧ Below w.heap.size w w' := by
  have HC := Lib.hid (heldStringS_any A n c k K (w.alloc (.cells #[.string nm, .int .i64 st, .slice A n c] 27)) hK h1 h2 (hr.below (below_alloc _ _)))
  have i1 : (0 : Int) ≤ (K : Int) + (n : Int) := by omega
  clear hr h1 h2 hK
  go_enter Try.func22, Try.ntmps22
  go_wp2_with fail
  refine (HC.out).mono ?_
  rintro e w1 ⟨rfl, hb1⟩
  have HB : Hid (Below w.heap.size w w1) := (below_alloc w _).trans (hb1.mono (by simp))
  clear hb1
  go_wp2
  go_ret
  exact ⟨ret_i rfl, HB.out⟩
end Go.Proofs.Ytbmabfgnmafooaa
