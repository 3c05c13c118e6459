/-
  No cell of these rows narrows 'for every input' (looked for: loops, veiled, ifaces, maps, wideKeys, modest, calm, conditions, laid).
  DERIVED. THE GIVEN ROWS OF THIS SEAT. 6 by the template 'for every input the law returns true; each argument reads behind the call as it read before'; 0 by the template 'total and deterministic' (their statements: YtajmjfekddgelaaTotals.lean).
  GIVEN WITH THE SEED: the statements are not yours to turn. If you find one false, say at which input.
  Laid BY PROGRAM, IN A SANDBOX (cutbox-rows.mjs): the forced cells as the released guide's own fill.sh prints them over the translation 60681825f9a9c111… (all of the seat's roots in one cut). By AI agents, Wed Nov 11 2026. No macro, syntax, notation, axiom, sorry.
-/
import Derived.Test.YtajmjfekddgelaaChecked
import GoSem.Claim
import GoSem.ClaimJoined
import GoSem.ClaimMapViews
import Derived.JoinedTies
import Derived.KernelRfl
namespace Go.Proofs.Ytajmjfekddgelaa
/- THE CELL 'sum', in the pinned program and in every row, IS THE sha256 OF THE DUMP (.gsa) THAT YtajmjfekddgelaaProg.lean LOADS. Nothing in Lean hashes anything: it is a label: what it is worth is what the hold of that sum in a sandbox is worth. -/
noncomputable def Try.pinned : Pinned := { name := "ytajmjfekddgelaa", sum := "60681825f9a9c111bdf59b5cb32caabb551e6acb120efe494ef9f5b7819de683", checked := Try.checked }
namespace Rows
def none {H : Type} : Left H := { results := [], args := [] }

/-- 'laws.FnExactSortRows': WHATEVER THE INPUT: true; the input reads as it did. -/
def fnExactSortRowsSpec : ChangeSpec := { name := "fnExactSortRows", fn := fun _ => fun
  | [d] => { results := [.lit (.bool true)], args := [d] }
  | _ => none }
def fnExactSortRowsRow : OpenClaim := { program := "ytajmjfekddgelaa", sum := "60681825f9a9c111bdf59b5cb32caabb551e6acb120efe494ef9f5b7819de683", func := "loop.example/g00894/laws.FnExactSortRows", spec := "fnExactSortRows", recurses := true, apart := false }
def FnExactSortRowsSaid : Prop := fnExactSortRowsRow.holds Try.pinned (OpenSpec.ofChange fnExactSortRowsSpec)

/-- ITS FALSE NEIGHBOUR: 'it returns false'. Refute it at one input. -/
def fnExactSortRowsWrong : ChangeSpec := { name := "fnExactSortRows", fn := fun _ => fun
  | [d] => { results := [.lit (.bool false)], args := [d] }
  | _ => none }
def FnExactSortRowsWrongFalsely : Prop := fnExactSortRowsRow.holds Try.pinned (OpenSpec.ofChange fnExactSortRowsWrong)

/-- 'laws.FnExactAllChanges': WHATEVER THE INPUT: true; the input reads as it did. -/
def fnExactAllChangesSpec : ChangeSpec := { name := "fnExactAllChanges", fn := fun _ => fun
  | [d] => { results := [.lit (.bool true)], args := [d] }
  | _ => none }
def fnExactAllChangesRow : OpenClaim := { program := "ytajmjfekddgelaa", sum := "60681825f9a9c111bdf59b5cb32caabb551e6acb120efe494ef9f5b7819de683", func := "loop.example/g00894/laws.FnExactAllChanges", spec := "fnExactAllChanges", recurses := true, apart := false }
def FnExactAllChangesSaid : Prop := fnExactAllChangesRow.holds Try.pinned (OpenSpec.ofChange fnExactAllChangesSpec)

/-- ITS FALSE NEIGHBOUR: 'it returns false'. Refute it at one input. -/
def fnExactAllChangesWrong : ChangeSpec := { name := "fnExactAllChanges", fn := fun _ => fun
  | [d] => { results := [.lit (.bool false)], args := [d] }
  | _ => none }
def FnExactAllChangesWrongFalsely : Prop := fnExactAllChangesRow.holds Try.pinned (OpenSpec.ofChange fnExactAllChangesWrong)

/-- 'laws.FnExactCosetOf': WHATEVER THE INPUT: true; the input reads as it did. -/
def fnExactCosetOfSpec : ChangeSpec := { name := "fnExactCosetOf", fn := fun _ => fun
  | [d1, d2] => { results := [.lit (.bool true)], args := [d1, d2] }
  | _ => none }
def fnExactCosetOfRow : OpenClaim := { program := "ytajmjfekddgelaa", sum := "60681825f9a9c111bdf59b5cb32caabb551e6acb120efe494ef9f5b7819de683", func := "loop.example/g00894/laws.FnExactCosetOf", spec := "fnExactCosetOf", recurses := true, apart := false }
def FnExactCosetOfSaid : Prop := fnExactCosetOfRow.holds Try.pinned (OpenSpec.ofChange fnExactCosetOfSpec)

/-- ITS FALSE NEIGHBOUR: 'it returns false'. Refute it at one input. -/
def fnExactCosetOfWrong : ChangeSpec := { name := "fnExactCosetOf", fn := fun _ => fun
  | [d1, d2] => { results := [.lit (.bool false)], args := [d1, d2] }
  | _ => none }
def FnExactCosetOfWrongFalsely : Prop := fnExactCosetOfRow.holds Try.pinned (OpenSpec.ofChange fnExactCosetOfWrong)

/-- 'laws.FnExactCosetsIn': WHATEVER THE INPUT: true; the input reads as it did. -/
def fnExactCosetsInSpec : ChangeSpec := { name := "fnExactCosetsIn", fn := fun _ => fun
  | [d1, d2] => { results := [.lit (.bool true)], args := [d1, d2] }
  | _ => none }
def fnExactCosetsInRow : OpenClaim := { program := "ytajmjfekddgelaa", sum := "60681825f9a9c111bdf59b5cb32caabb551e6acb120efe494ef9f5b7819de683", func := "loop.example/g00894/laws.FnExactCosetsIn", spec := "fnExactCosetsIn", recurses := true, apart := false }
def FnExactCosetsInSaid : Prop := fnExactCosetsInRow.holds Try.pinned (OpenSpec.ofChange fnExactCosetsInSpec)

/-- ITS FALSE NEIGHBOUR: 'it returns false'. Refute it at one input. -/
def fnExactCosetsInWrong : ChangeSpec := { name := "fnExactCosetsIn", fn := fun _ => fun
  | [d1, d2] => { results := [.lit (.bool false)], args := [d1, d2] }
  | _ => none }
def FnExactCosetsInWrongFalsely : Prop := fnExactCosetsInRow.holds Try.pinned (OpenSpec.ofChange fnExactCosetsInWrong)

/-- 'laws.FnExactIsGroup': WHATEVER THE INPUT: true; the input reads as it did. -/
def fnExactIsGroupSpec : ChangeSpec := { name := "fnExactIsGroup", fn := fun _ => fun
  | [d] => { results := [.lit (.bool true)], args := [d] }
  | _ => none }
def fnExactIsGroupRow : OpenClaim := { program := "ytajmjfekddgelaa", sum := "60681825f9a9c111bdf59b5cb32caabb551e6acb120efe494ef9f5b7819de683", func := "loop.example/g00894/laws.FnExactIsGroup", spec := "fnExactIsGroup", recurses := true, apart := false }
def FnExactIsGroupSaid : Prop := fnExactIsGroupRow.holds Try.pinned (OpenSpec.ofChange fnExactIsGroupSpec)

/-- ITS FALSE NEIGHBOUR: 'it returns false'. Refute it at one input. -/
def fnExactIsGroupWrong : ChangeSpec := { name := "fnExactIsGroup", fn := fun _ => fun
  | [d] => { results := [.lit (.bool false)], args := [d] }
  | _ => none }
def FnExactIsGroupWrongFalsely : Prop := fnExactIsGroupRow.holds Try.pinned (OpenSpec.ofChange fnExactIsGroupWrong)

/-- 'laws.FnExactCloseRows': WHATEVER THE INPUT: true; the input reads as it did. -/
def fnExactCloseRowsSpec : ChangeSpec := { name := "fnExactCloseRows", fn := fun _ => fun
  | [d] => { results := [.lit (.bool true)], args := [d] }
  | _ => none }
def fnExactCloseRowsRow : OpenClaim := { program := "ytajmjfekddgelaa", sum := "60681825f9a9c111bdf59b5cb32caabb551e6acb120efe494ef9f5b7819de683", func := "loop.example/g00894/laws.FnExactCloseRows", spec := "fnExactCloseRows", recurses := true, apart := false }
def FnExactCloseRowsSaid : Prop := fnExactCloseRowsRow.holds Try.pinned (OpenSpec.ofChange fnExactCloseRowsSpec)

/-- ITS FALSE NEIGHBOUR: 'it returns false'. Refute it at one input. -/
def fnExactCloseRowsWrong : ChangeSpec := { name := "fnExactCloseRows", fn := fun _ => fun
  | [d] => { results := [.lit (.bool false)], args := [d] }
  | _ => none }
def FnExactCloseRowsWrongFalsely : Prop := fnExactCloseRowsRow.holds Try.pinned (OpenSpec.ofChange fnExactCloseRowsWrong)

/- THE SECOND FORM. 'bulk': how many values and letters a reading holds, each counted each time it is reached (what is shared counts as often as it is met; a slice's spare places count too). A statement '..UptoSaid' is the law's where the arguments, and the package variables that the reading takes, are together of bulk at most 1048576: NARROWER than '..Said'. Prove '..Said' where nothing that the law and all that it calls make is longer than what came in: it says more and counts as full. Else prove '..UptoSaid'. A law counts once. -/
mutual
def uptoBulk {H : Type} : DataW H → Nat
  | .lit (.string bytes) => bytes.length + 1
  | .lit _ => 1
  | .nil => 1
  | .ptr d => uptoBulk d + 1
  | .slice elems spare => uptoBulkAll elems + uptoBulkAll spare + 1
  | .agg parts => uptoBulkAll parts + 1
  | .iface _ d => uptoBulk d + 1
  | .map entries => uptoBulkEntries entries + 1
  | .held _ => 1
def uptoBulkAll {H : Type} : List (DataW H) → Nat
  | [] => 0
  | d :: r => uptoBulk d + uptoBulkAll r
def uptoBulkEntries {H : Type} : List (Lit × DataW H) → Nat
  | [] => 0
  | x :: r => uptoBulkEntry x + uptoBulkEntries r
def uptoBulkEntry {H : Type} : Lit × DataW H → Nat
  | (.string bytes, d) => bytes.length + uptoBulk d + 1
  | (_, d) => uptoBulk d + 1
 end
def uptoSmall : (H : Type) → List (DataW H) → Bool := fun _ ds => decide (uptoBulkAll ds ≤ 1048576)
def OpenSpec.upto (s : _root_.Go.ChangeSpec) : _root_.Go.OpenSpec := { _root_.Go.OpenSpec.ofChange s with cond := some uptoSmall }

/-- 'laws.FnExactSortRows', WHERE WHAT IT READS IS OF BULK AT MOST 1048576: true; the input reads as it did. -/
def fnExactSortRowsUptoRow : OpenClaim := { program := "ytajmjfekddgelaa", sum := "60681825f9a9c111bdf59b5cb32caabb551e6acb120efe494ef9f5b7819de683", func := "loop.example/g00894/laws.FnExactSortRows", spec := "fnExactSortRows", recurses := true, apart := false, narrowed := true }
def FnExactSortRowsUptoSaid : Prop := fnExactSortRowsUptoRow.holds Try.pinned (OpenSpec.upto fnExactSortRowsSpec)

/-- 'laws.FnExactAllChanges', WHERE WHAT IT READS IS OF BULK AT MOST 1048576: true; the input reads as it did. -/
def fnExactAllChangesUptoRow : OpenClaim := { program := "ytajmjfekddgelaa", sum := "60681825f9a9c111bdf59b5cb32caabb551e6acb120efe494ef9f5b7819de683", func := "loop.example/g00894/laws.FnExactAllChanges", spec := "fnExactAllChanges", recurses := true, apart := false, narrowed := true }
def FnExactAllChangesUptoSaid : Prop := fnExactAllChangesUptoRow.holds Try.pinned (OpenSpec.upto fnExactAllChangesSpec)

/-- 'laws.FnExactCosetOf', WHERE WHAT IT READS IS OF BULK AT MOST 1048576: true; the input reads as it did. -/
def fnExactCosetOfUptoRow : OpenClaim := { program := "ytajmjfekddgelaa", sum := "60681825f9a9c111bdf59b5cb32caabb551e6acb120efe494ef9f5b7819de683", func := "loop.example/g00894/laws.FnExactCosetOf", spec := "fnExactCosetOf", recurses := true, apart := false, narrowed := true }
def FnExactCosetOfUptoSaid : Prop := fnExactCosetOfUptoRow.holds Try.pinned (OpenSpec.upto fnExactCosetOfSpec)

/-- 'laws.FnExactCosetsIn', WHERE WHAT IT READS IS OF BULK AT MOST 1048576: true; the input reads as it did. -/
def fnExactCosetsInUptoRow : OpenClaim := { program := "ytajmjfekddgelaa", sum := "60681825f9a9c111bdf59b5cb32caabb551e6acb120efe494ef9f5b7819de683", func := "loop.example/g00894/laws.FnExactCosetsIn", spec := "fnExactCosetsIn", recurses := true, apart := false, narrowed := true }
def FnExactCosetsInUptoSaid : Prop := fnExactCosetsInUptoRow.holds Try.pinned (OpenSpec.upto fnExactCosetsInSpec)

/-- 'laws.FnExactIsGroup', WHERE WHAT IT READS IS OF BULK AT MOST 1048576: true; the input reads as it did. -/
def fnExactIsGroupUptoRow : OpenClaim := { program := "ytajmjfekddgelaa", sum := "60681825f9a9c111bdf59b5cb32caabb551e6acb120efe494ef9f5b7819de683", func := "loop.example/g00894/laws.FnExactIsGroup", spec := "fnExactIsGroup", recurses := true, apart := false, narrowed := true }
def FnExactIsGroupUptoSaid : Prop := fnExactIsGroupUptoRow.holds Try.pinned (OpenSpec.upto fnExactIsGroupSpec)

/-- 'laws.FnExactCloseRows', WHERE WHAT IT READS IS OF BULK AT MOST 1048576: true; the input reads as it did. -/
def fnExactCloseRowsUptoRow : OpenClaim := { program := "ytajmjfekddgelaa", sum := "60681825f9a9c111bdf59b5cb32caabb551e6acb120efe494ef9f5b7819de683", func := "loop.example/g00894/laws.FnExactCloseRows", spec := "fnExactCloseRows", recurses := true, apart := false, narrowed := true }
def FnExactCloseRowsUptoSaid : Prop := fnExactCloseRowsUptoRow.holds Try.pinned (OpenSpec.upto fnExactCloseRowsSpec)

end Rows
end Go.Proofs.Ytajmjfekddgelaa
