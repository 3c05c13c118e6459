/- The walks of the laws' helpers over a method by value. -/
import Derived.Test.YtgpjbmlemnjhfaaWalkS
import Derived.Test.YtgpjbmlemnjhfaaKit4
import Derived.Laws.Rows
import Derived.Lib.SmallJoins
namespace Go.Proofs.Ytgpjbmlemnjhfaa
open Go.RowKit
set_option linter.unusedVariables false

/-- a method as a value -/
def methV (nm : ByteArray) (st : Int) (A : Option Addr) (n c : Nat) : Value := .agg #[.string nm, .int .i64 st, .slice A n c]
def szM (nm : ByteArray) (ss : List ByteArray) (l : Int) : Int := if l - nm.size < 0 then -1 else if szL ss (l - nm.size) < 0 then -1 else szL ss (l - nm.size)
/-- what a call that hands back a method with its own list leaves -/
def RetM (nm : ByteArray) (st : Int) (ss : List ByteArray) (w : World) (e : Ending) (w' : World) : Prop :=
  ∃ A n c, e = .returned (.agg #[.string nm, .int .i64 st, .slice A n c]) ∧ Own w' 9 w.heap.size w'.heap.size A n c (strsV ss) ∧ Below w.heap.size w w'

theorem heap_last (w : World) (o : Obj) (k : Nat) (hk : k = w.heap.size) : (w.alloc o).heap[k]? = some o := by
  subst hk
  show (w.heap.push o)[w.heap.size]? = some o
  simp
theorem heap_past (w : World) (o : Obj) (k : Nat) (hk : k < w.heap.size) : (w.alloc o).heap[k]? = w.heap[k]? := Below.heap_alloc _ _ _ hk
end Go.Proofs.Ytgpjbmlemnjhfaa
