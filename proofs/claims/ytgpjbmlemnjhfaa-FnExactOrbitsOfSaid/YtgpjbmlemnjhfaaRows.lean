/-
  No cell of these rows narrows 'for every input' (looked for: loops, veiled, ifaces, maps, wideKeys, modest, calm, conditions, laid).
  DERIVED. THE GIVEN ROWS OF THIS SEAT. 9 by the template 'for every input the law returns true; each argument reads behind the call as it read before'; 0 by the template 'total and deterministic' (their statements: YtgpjbmlemnjhfaaTotals.lean).
  GIVEN WITH THE SEED: the statements are not yours to turn. If you find one false, say at which input.
  Laid BY PROGRAM, IN A SANDBOX (cutbox-rows.mjs): the forced cells as the released guide's own fill.sh prints them over the translation c065de193a4e295b… (all of the seat's roots in one cut). By AI agents, Wed Nov 11 2026. No macro, syntax, notation, axiom, sorry.
-/
import Derived.Test.YtgpjbmlemnjhfaaChecked
import GoSem.Claim
import GoSem.ClaimJoined
import GoSem.ClaimMapViews
import Derived.JoinedTies
import Derived.KernelRfl
namespace Go.Proofs.Ytgpjbmlemnjhfaa
/- THE CELL 'sum', in the pinned program and in every row, IS THE sha256 OF THE DUMP (.gsa) THAT YtgpjbmlemnjhfaaProg.lean LOADS. Nothing in Lean hashes anything: it is a label: what it is worth is what the hold of that sum in a sandbox is worth. -/
noncomputable def Try.pinned : Pinned := { name := "ytgpjbmlemnjhfaa", sum := "c065de193a4e295b4a37cef266496499b19dce7b1e3f73fb722e2f8be4879594", checked := Try.checked }
namespace Rows
def none {H : Type} : Left H := { results := [], args := [] }

/-- 'laws.FnExactCyclesOf': WHATEVER THE INPUT: true; the input reads as it did. -/
def fnExactCyclesOfSpec : ChangeSpec := { name := "fnExactCyclesOf", fn := fun _ => fun
  | [d] => { results := [.lit (.bool true)], args := [d] }
  | _ => none }
def fnExactCyclesOfRow : OpenClaim := { program := "ytgpjbmlemnjhfaa", sum := "c065de193a4e295b4a37cef266496499b19dce7b1e3f73fb722e2f8be4879594", func := "loop.example/g00894/laws.FnExactCyclesOf", spec := "fnExactCyclesOf", apart := false }
def FnExactCyclesOfSaid : Prop := fnExactCyclesOfRow.holds Try.pinned (OpenSpec.ofChange fnExactCyclesOfSpec)

/-- ITS FALSE NEIGHBOUR: 'it returns false'. Refute it at one input. -/
def fnExactCyclesOfWrong : ChangeSpec := { name := "fnExactCyclesOf", fn := fun _ => fun
  | [d] => { results := [.lit (.bool false)], args := [d] }
  | _ => none }
def FnExactCyclesOfWrongFalsely : Prop := fnExactCyclesOfRow.holds Try.pinned (OpenSpec.ofChange fnExactCyclesOfWrong)

/-- 'laws.FnExactHalvesOf': WHATEVER THE INPUT: true; the input reads as it did. -/
def fnExactHalvesOfSpec : ChangeSpec := { name := "fnExactHalvesOf", fn := fun _ => fun
  | [d1, d2] => { results := [.lit (.bool true)], args := [d1, d2] }
  | _ => none }
def fnExactHalvesOfRow : OpenClaim := { program := "ytgpjbmlemnjhfaa", sum := "c065de193a4e295b4a37cef266496499b19dce7b1e3f73fb722e2f8be4879594", func := "loop.example/g00894/laws.FnExactHalvesOf", spec := "fnExactHalvesOf", apart := false }
def FnExactHalvesOfSaid : Prop := fnExactHalvesOfRow.holds Try.pinned (OpenSpec.ofChange fnExactHalvesOfSpec)

/-- ITS FALSE NEIGHBOUR: 'it returns false'. Refute it at one input. -/
def fnExactHalvesOfWrong : ChangeSpec := { name := "fnExactHalvesOf", fn := fun _ => fun
  | [d1, d2] => { results := [.lit (.bool false)], args := [d1, d2] }
  | _ => none }
def FnExactHalvesOfWrongFalsely : Prop := fnExactHalvesOfRow.holds Try.pinned (OpenSpec.ofChange fnExactHalvesOfWrong)

/-- 'laws.FnExactShortNotation': WHATEVER THE INPUT: true; the input reads as it did. -/
def fnExactShortNotationSpec : ChangeSpec := { name := "fnExactShortNotation", fn := fun _ => fun
  | [d1, d2] => { results := [.lit (.bool true)], args := [d1, d2] }
  | _ => none }
def fnExactShortNotationRow : OpenClaim := { program := "ytgpjbmlemnjhfaa", sum := "c065de193a4e295b4a37cef266496499b19dce7b1e3f73fb722e2f8be4879594", func := "loop.example/g00894/laws.FnExactShortNotation", spec := "fnExactShortNotation", apart := false }
def FnExactShortNotationSaid : Prop := fnExactShortNotationRow.holds Try.pinned (OpenSpec.ofChange fnExactShortNotationSpec)

/-- ITS FALSE NEIGHBOUR: 'it returns false'. Refute it at one input. -/
def fnExactShortNotationWrong : ChangeSpec := { name := "fnExactShortNotation", fn := fun _ => fun
  | [d1, d2] => { results := [.lit (.bool false)], args := [d1, d2] }
  | _ => none }
def FnExactShortNotationWrongFalsely : Prop := fnExactShortNotationRow.holds Try.pinned (OpenSpec.ofChange fnExactShortNotationWrong)

/-- 'laws.FnExactBetweenRows': WHATEVER THE INPUT: true; the input reads as it did. -/
def fnExactBetweenRowsSpec : ChangeSpec := { name := "fnExactBetweenRows", fn := fun _ => fun
  | [d1, d2] => { results := [.lit (.bool true)], args := [d1, d2] }
  | _ => none }
def fnExactBetweenRowsRow : OpenClaim := { program := "ytgpjbmlemnjhfaa", sum := "c065de193a4e295b4a37cef266496499b19dce7b1e3f73fb722e2f8be4879594", func := "loop.example/g00894/laws.FnExactBetweenRows", spec := "fnExactBetweenRows", recurses := true, apart := false }
def FnExactBetweenRowsSaid : Prop := fnExactBetweenRowsRow.holds Try.pinned (OpenSpec.ofChange fnExactBetweenRowsSpec)

/-- ITS FALSE NEIGHBOUR: 'it returns false'. Refute it at one input. -/
def fnExactBetweenRowsWrong : ChangeSpec := { name := "fnExactBetweenRows", fn := fun _ => fun
  | [d1, d2] => { results := [.lit (.bool false)], args := [d1, d2] }
  | _ => none }
def FnExactBetweenRowsWrongFalsely : Prop := fnExactBetweenRowsRow.holds Try.pinned (OpenSpec.ofChange fnExactBetweenRowsWrong)

/-- 'laws.FnExactRowsOf': WHATEVER THE INPUT: true; the input reads as it did. -/
def fnExactRowsOfSpec : ChangeSpec := { name := "fnExactRowsOf", fn := fun _ => fun
  | [d] => { results := [.lit (.bool true)], args := [d] }
  | _ => none }
def fnExactRowsOfRow : OpenClaim := { program := "ytgpjbmlemnjhfaa", sum := "c065de193a4e295b4a37cef266496499b19dce7b1e3f73fb722e2f8be4879594", func := "loop.example/g00894/laws.FnExactRowsOf", spec := "fnExactRowsOf", apart := false }
def FnExactRowsOfSaid : Prop := fnExactRowsOfRow.holds Try.pinned (OpenSpec.ofChange fnExactRowsOfSpec)

/-- ITS FALSE NEIGHBOUR: 'it returns false'. Refute it at one input. -/
def fnExactRowsOfWrong : ChangeSpec := { name := "fnExactRowsOf", fn := fun _ => fun
  | [d] => { results := [.lit (.bool false)], args := [d] }
  | _ => none }
def FnExactRowsOfWrongFalsely : Prop := fnExactRowsOfRow.holds Try.pinned (OpenSpec.ofChange fnExactRowsOfWrong)

/-- 'laws.FnExactMeetIn': WHATEVER THE INPUT: true; the input reads as it did. -/
def fnExactMeetInSpec : ChangeSpec := { name := "fnExactMeetIn", fn := fun _ => fun
  | [d1, d2] => { results := [.lit (.bool true)], args := [d1, d2] }
  | _ => none }
def fnExactMeetInRow : OpenClaim := { program := "ytgpjbmlemnjhfaa", sum := "c065de193a4e295b4a37cef266496499b19dce7b1e3f73fb722e2f8be4879594", func := "loop.example/g00894/laws.FnExactMeetIn", spec := "fnExactMeetIn", apart := false }
def FnExactMeetInSaid : Prop := fnExactMeetInRow.holds Try.pinned (OpenSpec.ofChange fnExactMeetInSpec)

/-- ITS FALSE NEIGHBOUR: 'it returns false'. Refute it at one input. -/
def fnExactMeetInWrong : ChangeSpec := { name := "fnExactMeetIn", fn := fun _ => fun
  | [d1, d2] => { results := [.lit (.bool false)], args := [d1, d2] }
  | _ => none }
def FnExactMeetInWrongFalsely : Prop := fnExactMeetInRow.holds Try.pinned (OpenSpec.ofChange fnExactMeetInWrong)

/-- 'laws.FnExactRepeatsIn': WHATEVER THE INPUT: true; the input reads as it did. -/
def fnExactRepeatsInSpec : ChangeSpec := { name := "fnExactRepeatsIn", fn := fun _ => fun
  | [d] => { results := [.lit (.bool true)], args := [d] }
  | _ => none }
def fnExactRepeatsInRow : OpenClaim := { program := "ytgpjbmlemnjhfaa", sum := "c065de193a4e295b4a37cef266496499b19dce7b1e3f73fb722e2f8be4879594", func := "loop.example/g00894/laws.FnExactRepeatsIn", spec := "fnExactRepeatsIn", apart := false }
def FnExactRepeatsInSaid : Prop := fnExactRepeatsInRow.holds Try.pinned (OpenSpec.ofChange fnExactRepeatsInSpec)

/-- ITS FALSE NEIGHBOUR: 'it returns false'. Refute it at one input. -/
def fnExactRepeatsInWrong : ChangeSpec := { name := "fnExactRepeatsIn", fn := fun _ => fun
  | [d] => { results := [.lit (.bool false)], args := [d] }
  | _ => none }
def FnExactRepeatsInWrongFalsely : Prop := fnExactRepeatsInRow.holds Try.pinned (OpenSpec.ofChange fnExactRepeatsInWrong)

/-- 'laws.FnExactIsTrueList': WHATEVER THE INPUT: true; the input reads as it did. -/
def fnExactIsTrueListSpec : ChangeSpec := { name := "fnExactIsTrueList", fn := fun _ => fun
  | [d] => { results := [.lit (.bool true)], args := [d] }
  | _ => none }
def fnExactIsTrueListRow : OpenClaim := { program := "ytgpjbmlemnjhfaa", sum := "c065de193a4e295b4a37cef266496499b19dce7b1e3f73fb722e2f8be4879594", func := "loop.example/g00894/laws.FnExactIsTrueList", spec := "fnExactIsTrueList", recurses := true, apart := false }
def FnExactIsTrueListSaid : Prop := fnExactIsTrueListRow.holds Try.pinned (OpenSpec.ofChange fnExactIsTrueListSpec)

/-- ITS FALSE NEIGHBOUR: 'it returns false'. Refute it at one input. -/
def fnExactIsTrueListWrong : ChangeSpec := { name := "fnExactIsTrueList", fn := fun _ => fun
  | [d] => { results := [.lit (.bool false)], args := [d] }
  | _ => none }
def FnExactIsTrueListWrongFalsely : Prop := fnExactIsTrueListRow.holds Try.pinned (OpenSpec.ofChange fnExactIsTrueListWrong)

/-- 'laws.FnExactOrbitsOf': WHATEVER THE INPUT: true; the input reads as it did. -/
def fnExactOrbitsOfSpec : ChangeSpec := { name := "fnExactOrbitsOf", fn := fun _ => fun
  | [d1, d2] => { results := [.lit (.bool true)], args := [d1, d2] }
  | _ => none }
def fnExactOrbitsOfRow : OpenClaim := { program := "ytgpjbmlemnjhfaa", sum := "c065de193a4e295b4a37cef266496499b19dce7b1e3f73fb722e2f8be4879594", func := "loop.example/g00894/laws.FnExactOrbitsOf", spec := "fnExactOrbitsOf", recurses := true, apart := false }
def FnExactOrbitsOfSaid : Prop := fnExactOrbitsOfRow.holds Try.pinned (OpenSpec.ofChange fnExactOrbitsOfSpec)

/-- ITS FALSE NEIGHBOUR: 'it returns false'. Refute it at one input. -/
def fnExactOrbitsOfWrong : ChangeSpec := { name := "fnExactOrbitsOf", fn := fun _ => fun
  | [d1, d2] => { results := [.lit (.bool false)], args := [d1, d2] }
  | _ => none }
def FnExactOrbitsOfWrongFalsely : Prop := fnExactOrbitsOfRow.holds Try.pinned (OpenSpec.ofChange fnExactOrbitsOfWrong)

/- THE SECOND FORM. 'bulk': how many values and letters a reading holds, each counted each time it is reached (what is shared counts as often as it is met; a slice's spare places count too). A statement '..UptoSaid' is the law's where the arguments, and the package variables that the reading takes, are together of bulk at most 1048576: NARROWER than '..Said'. Prove '..Said' where nothing that the law and all that it calls make is longer than what came in: it says more and counts as full. Else prove '..UptoSaid'. A law counts once. -/
mutual
def uptoBulk {H : Type} : DataW H → Nat
  | .lit (.string bytes) => bytes.length + 1
  | .lit _ => 1
  | .nil => 1
  | .ptr d => uptoBulk d + 1
  | .slice elems spare => uptoBulkAll elems + uptoBulkAll spare + 1
  | .agg parts => uptoBulkAll parts + 1
  | .iface _ d => uptoBulk d + 1
  | .map entries => uptoBulkEntries entries + 1
  | .held _ => 1
def uptoBulkAll {H : Type} : List (DataW H) → Nat
  | [] => 0
  | d :: r => uptoBulk d + uptoBulkAll r
def uptoBulkEntries {H : Type} : List (Lit × DataW H) → Nat
  | [] => 0
  | x :: r => uptoBulkEntry x + uptoBulkEntries r
def uptoBulkEntry {H : Type} : Lit × DataW H → Nat
  | (.string bytes, d) => bytes.length + uptoBulk d + 1
  | (_, d) => uptoBulk d + 1
 end
def uptoSmall : (H : Type) → List (DataW H) → Bool := fun _ ds => decide (uptoBulkAll ds ≤ 1048576)
def OpenSpec.upto (s : _root_.Go.ChangeSpec) : _root_.Go.OpenSpec := { _root_.Go.OpenSpec.ofChange s with cond := some uptoSmall }

/-- 'laws.FnExactCyclesOf', WHERE WHAT IT READS IS OF BULK AT MOST 1048576: true; the input reads as it did. -/
def fnExactCyclesOfUptoRow : OpenClaim := { program := "ytgpjbmlemnjhfaa", sum := "c065de193a4e295b4a37cef266496499b19dce7b1e3f73fb722e2f8be4879594", func := "loop.example/g00894/laws.FnExactCyclesOf", spec := "fnExactCyclesOf", apart := false, narrowed := true }
def FnExactCyclesOfUptoSaid : Prop := fnExactCyclesOfUptoRow.holds Try.pinned (OpenSpec.upto fnExactCyclesOfSpec)

/-- 'laws.FnExactHalvesOf', WHERE WHAT IT READS IS OF BULK AT MOST 1048576: true; the input reads as it did. -/
def fnExactHalvesOfUptoRow : OpenClaim := { program := "ytgpjbmlemnjhfaa", sum := "c065de193a4e295b4a37cef266496499b19dce7b1e3f73fb722e2f8be4879594", func := "loop.example/g00894/laws.FnExactHalvesOf", spec := "fnExactHalvesOf", apart := false, narrowed := true }
def FnExactHalvesOfUptoSaid : Prop := fnExactHalvesOfUptoRow.holds Try.pinned (OpenSpec.upto fnExactHalvesOfSpec)

/-- 'laws.FnExactShortNotation', WHERE WHAT IT READS IS OF BULK AT MOST 1048576: true; the input reads as it did. -/
def fnExactShortNotationUptoRow : OpenClaim := { program := "ytgpjbmlemnjhfaa", sum := "c065de193a4e295b4a37cef266496499b19dce7b1e3f73fb722e2f8be4879594", func := "loop.example/g00894/laws.FnExactShortNotation", spec := "fnExactShortNotation", apart := false, narrowed := true }
def FnExactShortNotationUptoSaid : Prop := fnExactShortNotationUptoRow.holds Try.pinned (OpenSpec.upto fnExactShortNotationSpec)

/-- 'laws.FnExactBetweenRows', WHERE WHAT IT READS IS OF BULK AT MOST 1048576: true; the input reads as it did. -/
def fnExactBetweenRowsUptoRow : OpenClaim := { program := "ytgpjbmlemnjhfaa", sum := "c065de193a4e295b4a37cef266496499b19dce7b1e3f73fb722e2f8be4879594", func := "loop.example/g00894/laws.FnExactBetweenRows", spec := "fnExactBetweenRows", recurses := true, apart := false, narrowed := true }
def FnExactBetweenRowsUptoSaid : Prop := fnExactBetweenRowsUptoRow.holds Try.pinned (OpenSpec.upto fnExactBetweenRowsSpec)

/-- 'laws.FnExactRowsOf', WHERE WHAT IT READS IS OF BULK AT MOST 1048576: true; the input reads as it did. -/
def fnExactRowsOfUptoRow : OpenClaim := { program := "ytgpjbmlemnjhfaa", sum := "c065de193a4e295b4a37cef266496499b19dce7b1e3f73fb722e2f8be4879594", func := "loop.example/g00894/laws.FnExactRowsOf", spec := "fnExactRowsOf", apart := false, narrowed := true }
def FnExactRowsOfUptoSaid : Prop := fnExactRowsOfUptoRow.holds Try.pinned (OpenSpec.upto fnExactRowsOfSpec)

/-- 'laws.FnExactMeetIn', WHERE WHAT IT READS IS OF BULK AT MOST 1048576: true; the input reads as it did. -/
def fnExactMeetInUptoRow : OpenClaim := { program := "ytgpjbmlemnjhfaa", sum := "c065de193a4e295b4a37cef266496499b19dce7b1e3f73fb722e2f8be4879594", func := "loop.example/g00894/laws.FnExactMeetIn", spec := "fnExactMeetIn", apart := false, narrowed := true }
def FnExactMeetInUptoSaid : Prop := fnExactMeetInUptoRow.holds Try.pinned (OpenSpec.upto fnExactMeetInSpec)

/-- 'laws.FnExactRepeatsIn', WHERE WHAT IT READS IS OF BULK AT MOST 1048576: true; the input reads as it did. -/
def fnExactRepeatsInUptoRow : OpenClaim := { program := "ytgpjbmlemnjhfaa", sum := "c065de193a4e295b4a37cef266496499b19dce7b1e3f73fb722e2f8be4879594", func := "loop.example/g00894/laws.FnExactRepeatsIn", spec := "fnExactRepeatsIn", apart := false, narrowed := true }
def FnExactRepeatsInUptoSaid : Prop := fnExactRepeatsInUptoRow.holds Try.pinned (OpenSpec.upto fnExactRepeatsInSpec)

/-- 'laws.FnExactIsTrueList', WHERE WHAT IT READS IS OF BULK AT MOST 1048576: true; the input reads as it did. -/
def fnExactIsTrueListUptoRow : OpenClaim := { program := "ytgpjbmlemnjhfaa", sum := "c065de193a4e295b4a37cef266496499b19dce7b1e3f73fb722e2f8be4879594", func := "loop.example/g00894/laws.FnExactIsTrueList", spec := "fnExactIsTrueList", recurses := true, apart := false, narrowed := true }
def FnExactIsTrueListUptoSaid : Prop := fnExactIsTrueListUptoRow.holds Try.pinned (OpenSpec.upto fnExactIsTrueListSpec)

/-- 'laws.FnExactOrbitsOf', WHERE WHAT IT READS IS OF BULK AT MOST 1048576: true; the input reads as it did. -/
def fnExactOrbitsOfUptoRow : OpenClaim := { program := "ytgpjbmlemnjhfaa", sum := "c065de193a4e295b4a37cef266496499b19dce7b1e3f73fb722e2f8be4879594", func := "loop.example/g00894/laws.FnExactOrbitsOf", spec := "fnExactOrbitsOf", recurses := true, apart := false, narrowed := true }
def FnExactOrbitsOfUptoSaid : Prop := fnExactOrbitsOfUptoRow.holds Try.pinned (OpenSpec.upto fnExactOrbitsOfSpec)

end Rows
end Go.Proofs.Ytgpjbmlemnjhfaa
