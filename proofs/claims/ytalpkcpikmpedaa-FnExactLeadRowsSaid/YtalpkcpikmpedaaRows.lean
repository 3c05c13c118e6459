/-
  No cell of these rows narrows 'for every input' (looked for: loops, veiled, ifaces, maps, wideKeys, modest, calm, conditions, laid).
  DERIVED. THE GIVEN ROWS OF THIS SEAT. 12 by the template 'for every input the law returns true; each argument reads behind the call as it read before'; 0 by the template 'total and deterministic' (their statements: YtalpkcpikmpedaaTotals.lean).
  GIVEN WITH THE SEED: the statements are not yours to turn. If you find one false, say at which input.
  Laid BY PROGRAM, IN A SANDBOX (cutbox-rows.mjs): the forced cells as the released guide's own fill.sh prints them over the translation 1ffb655514a20850… (all of the seat's roots in one cut). By AI agents, Wed Nov 11 2026. No macro, syntax, notation, axiom, sorry.
-/
import Derived.Test.YtalpkcpikmpedaaChecked
import GoSem.Claim
import GoSem.ClaimJoined
import GoSem.ClaimMapViews
import Derived.JoinedTies
import Derived.KernelRfl
namespace Go.Proofs.Ytalpkcpikmpedaa
/- THE CELL 'sum', in the pinned program and in every row, IS THE sha256 OF THE DUMP (.gsa) THAT YtalpkcpikmpedaaProg.lean LOADS. Nothing in Lean hashes anything: it is a label: what it is worth is what the hold of that sum in a sandbox is worth. -/
noncomputable def Try.pinned : Pinned := { name := "ytalpkcpikmpedaa", sum := "1ffb655514a20850cdc301ce6f7a82d3a653b1e4f9d511c7dca70da6b6718898", checked := Try.checked }
namespace Rows
def none {H : Type} : Left H := { results := [], args := [] }

/-- 'laws.FnExactGoodMethod': WHATEVER THE INPUT: true; the input reads as it did. -/
def fnExactGoodMethodSpec : ChangeSpec := { name := "fnExactGoodMethod", fn := fun _ => fun
  | [d] => { results := [.lit (.bool true)], args := [d] }
  | _ => none }
def fnExactGoodMethodRow : OpenClaim := { program := "ytalpkcpikmpedaa", sum := "1ffb655514a20850cdc301ce6f7a82d3a653b1e4f9d511c7dca70da6b6718898", func := "loop.example/g00894/laws.FnExactGoodMethod", spec := "fnExactGoodMethod", apart := false }
def FnExactGoodMethodSaid : Prop := fnExactGoodMethodRow.holds Try.pinned (OpenSpec.ofChange fnExactGoodMethodSpec)

/-- ITS FALSE NEIGHBOUR: 'it returns false'. Refute it at one input. -/
def fnExactGoodMethodWrong : ChangeSpec := { name := "fnExactGoodMethod", fn := fun _ => fun
  | [d] => { results := [.lit (.bool false)], args := [d] }
  | _ => none }
def FnExactGoodMethodWrongFalsely : Prop := fnExactGoodMethodRow.holds Try.pinned (OpenSpec.ofChange fnExactGoodMethodWrong)

/-- 'laws.FnExactLeadHead': WHATEVER THE INPUT: true; the input reads as it did. -/
def fnExactLeadHeadSpec : ChangeSpec := { name := "fnExactLeadHead", fn := fun _ => fun
  | [d] => { results := [.lit (.bool true)], args := [d] }
  | _ => none }
def fnExactLeadHeadRow : OpenClaim := { program := "ytalpkcpikmpedaa", sum := "1ffb655514a20850cdc301ce6f7a82d3a653b1e4f9d511c7dca70da6b6718898", func := "loop.example/g00894/laws.FnExactLeadHead", spec := "fnExactLeadHead", apart := false }
def FnExactLeadHeadSaid : Prop := fnExactLeadHeadRow.holds Try.pinned (OpenSpec.ofChange fnExactLeadHeadSpec)

/-- ITS FALSE NEIGHBOUR: 'it returns false'. Refute it at one input. -/
def fnExactLeadHeadWrong : ChangeSpec := { name := "fnExactLeadHead", fn := fun _ => fun
  | [d] => { results := [.lit (.bool false)], args := [d] }
  | _ => none }
def FnExactLeadHeadWrongFalsely : Prop := fnExactLeadHeadRow.holds Try.pinned (OpenSpec.ofChange fnExactLeadHeadWrong)

/-- 'laws.FnExactLeadsIn': WHATEVER THE INPUT: true; the input reads as it did. -/
def fnExactLeadsInSpec : ChangeSpec := { name := "fnExactLeadsIn", fn := fun _ => fun
  | [d] => { results := [.lit (.bool true)], args := [d] }
  | _ => none }
def fnExactLeadsInRow : OpenClaim := { program := "ytalpkcpikmpedaa", sum := "1ffb655514a20850cdc301ce6f7a82d3a653b1e4f9d511c7dca70da6b6718898", func := "loop.example/g00894/laws.FnExactLeadsIn", spec := "fnExactLeadsIn", apart := false }
def FnExactLeadsInSaid : Prop := fnExactLeadsInRow.holds Try.pinned (OpenSpec.ofChange fnExactLeadsInSpec)

/-- ITS FALSE NEIGHBOUR: 'it returns false'. Refute it at one input. -/
def fnExactLeadsInWrong : ChangeSpec := { name := "fnExactLeadsIn", fn := fun _ => fun
  | [d] => { results := [.lit (.bool false)], args := [d] }
  | _ => none }
def FnExactLeadsInWrongFalsely : Prop := fnExactLeadsInRow.holds Try.pinned (OpenSpec.ofChange fnExactLeadsInWrong)

/-- 'laws.FnExactLeadRows': WHATEVER THE INPUT: true; the input reads as it did. -/
def fnExactLeadRowsSpec : ChangeSpec := { name := "fnExactLeadRows", fn := fun _ => fun
  | [d1, d2] => { results := [.lit (.bool true)], args := [d1, d2] }
  | _ => none }
def fnExactLeadRowsRow : OpenClaim := { program := "ytalpkcpikmpedaa", sum := "1ffb655514a20850cdc301ce6f7a82d3a653b1e4f9d511c7dca70da6b6718898", func := "loop.example/g00894/laws.FnExactLeadRows", spec := "fnExactLeadRows", apart := false }
def FnExactLeadRowsSaid : Prop := fnExactLeadRowsRow.holds Try.pinned (OpenSpec.ofChange fnExactLeadRowsSpec)

/-- ITS FALSE NEIGHBOUR: 'it returns false'. Refute it at one input. -/
def fnExactLeadRowsWrong : ChangeSpec := { name := "fnExactLeadRows", fn := fun _ => fun
  | [d1, d2] => { results := [.lit (.bool false)], args := [d1, d2] }
  | _ => none }
def FnExactLeadRowsWrongFalsely : Prop := fnExactLeadRowsRow.holds Try.pinned (OpenSpec.ofChange fnExactLeadRowsWrong)

/-- 'laws.FnExactCourseRows': WHATEVER THE INPUT: true; the input reads as it did. -/
def fnExactCourseRowsSpec : ChangeSpec := { name := "fnExactCourseRows", fn := fun _ => fun
  | [d] => { results := [.lit (.bool true)], args := [d] }
  | _ => none }
def fnExactCourseRowsRow : OpenClaim := { program := "ytalpkcpikmpedaa", sum := "1ffb655514a20850cdc301ce6f7a82d3a653b1e4f9d511c7dca70da6b6718898", func := "loop.example/g00894/laws.FnExactCourseRows", spec := "fnExactCourseRows", apart := false }
def FnExactCourseRowsSaid : Prop := fnExactCourseRowsRow.holds Try.pinned (OpenSpec.ofChange fnExactCourseRowsSpec)

/-- ITS FALSE NEIGHBOUR: 'it returns false'. Refute it at one input. -/
def fnExactCourseRowsWrong : ChangeSpec := { name := "fnExactCourseRows", fn := fun _ => fun
  | [d] => { results := [.lit (.bool false)], args := [d] }
  | _ => none }
def FnExactCourseRowsWrongFalsely : Prop := fnExactCourseRowsRow.holds Try.pinned (OpenSpec.ofChange fnExactCourseRowsWrong)

/-- 'laws.FnExactStillBells': WHATEVER THE INPUT: true; the input reads as it did. -/
def fnExactStillBellsSpec : ChangeSpec := { name := "fnExactStillBells", fn := fun _ => fun
  | [d] => { results := [.lit (.bool true)], args := [d] }
  | _ => none }
def fnExactStillBellsRow : OpenClaim := { program := "ytalpkcpikmpedaa", sum := "1ffb655514a20850cdc301ce6f7a82d3a653b1e4f9d511c7dca70da6b6718898", func := "loop.example/g00894/laws.FnExactStillBells", spec := "fnExactStillBells", unfollowed := true, recurses := true, apart := false }
def FnExactStillBellsSaid : Prop := fnExactStillBellsRow.holds Try.pinned (OpenSpec.ofChange fnExactStillBellsSpec)

/-- ITS FALSE NEIGHBOUR: 'it returns false'. Refute it at one input. -/
def fnExactStillBellsWrong : ChangeSpec := { name := "fnExactStillBells", fn := fun _ => fun
  | [d] => { results := [.lit (.bool false)], args := [d] }
  | _ => none }
def FnExactStillBellsWrongFalsely : Prop := fnExactStillBellsRow.holds Try.pinned (OpenSpec.ofChange fnExactStillBellsWrong)

/-- 'laws.FnExactHuntBells': WHATEVER THE INPUT: true; the input reads as it did. -/
def fnExactHuntBellsSpec : ChangeSpec := { name := "fnExactHuntBells", fn := fun _ => fun
  | [d] => { results := [.lit (.bool true)], args := [d] }
  | _ => none }
def fnExactHuntBellsRow : OpenClaim := { program := "ytalpkcpikmpedaa", sum := "1ffb655514a20850cdc301ce6f7a82d3a653b1e4f9d511c7dca70da6b6718898", func := "loop.example/g00894/laws.FnExactHuntBells", spec := "fnExactHuntBells", unfollowed := true, recurses := true, apart := false }
def FnExactHuntBellsSaid : Prop := fnExactHuntBellsRow.holds Try.pinned (OpenSpec.ofChange fnExactHuntBellsSpec)

/-- ITS FALSE NEIGHBOUR: 'it returns false'. Refute it at one input. -/
def fnExactHuntBellsWrong : ChangeSpec := { name := "fnExactHuntBells", fn := fun _ => fun
  | [d] => { results := [.lit (.bool false)], args := [d] }
  | _ => none }
def FnExactHuntBellsWrongFalsely : Prop := fnExactHuntBellsRow.holds Try.pinned (OpenSpec.ofChange fnExactHuntBellsWrong)

/-- 'laws.FnExactPathOf': WHATEVER THE INPUT: true; the input reads as it did. -/
def fnExactPathOfSpec : ChangeSpec := { name := "fnExactPathOf", fn := fun _ => fun
  | [d1, d2] => { results := [.lit (.bool true)], args := [d1, d2] }
  | _ => none }
def fnExactPathOfRow : OpenClaim := { program := "ytalpkcpikmpedaa", sum := "1ffb655514a20850cdc301ce6f7a82d3a653b1e4f9d511c7dca70da6b6718898", func := "loop.example/g00894/laws.FnExactPathOf", spec := "fnExactPathOf", apart := false }
def FnExactPathOfSaid : Prop := fnExactPathOfRow.holds Try.pinned (OpenSpec.ofChange fnExactPathOfSpec)

/-- ITS FALSE NEIGHBOUR: 'it returns false'. Refute it at one input. -/
def fnExactPathOfWrong : ChangeSpec := { name := "fnExactPathOf", fn := fun _ => fun
  | [d1, d2] => { results := [.lit (.bool false)], args := [d1, d2] }
  | _ => none }
def FnExactPathOfWrongFalsely : Prop := fnExactPathOfRow.holds Try.pinned (OpenSpec.ofChange fnExactPathOfWrong)

/-- 'laws.FnExactPathsOf': WHATEVER THE INPUT: true; the input reads as it did. -/
def fnExactPathsOfSpec : ChangeSpec := { name := "fnExactPathsOf", fn := fun _ => fun
  | [d] => { results := [.lit (.bool true)], args := [d] }
  | _ => none }
def fnExactPathsOfRow : OpenClaim := { program := "ytalpkcpikmpedaa", sum := "1ffb655514a20850cdc301ce6f7a82d3a653b1e4f9d511c7dca70da6b6718898", func := "loop.example/g00894/laws.FnExactPathsOf", spec := "fnExactPathsOf", apart := false }
def FnExactPathsOfSaid : Prop := fnExactPathsOfRow.holds Try.pinned (OpenSpec.ofChange fnExactPathsOfSpec)

/-- ITS FALSE NEIGHBOUR: 'it returns false'. Refute it at one input. -/
def fnExactPathsOfWrong : ChangeSpec := { name := "fnExactPathsOf", fn := fun _ => fun
  | [d] => { results := [.lit (.bool false)], args := [d] }
  | _ => none }
def FnExactPathsOfWrongFalsely : Prop := fnExactPathsOfRow.holds Try.pinned (OpenSpec.ofChange fnExactPathsOfWrong)

/-- 'laws.FnExactPlaceBells': WHATEVER THE INPUT: true; the input reads as it did. -/
def fnExactPlaceBellsSpec : ChangeSpec := { name := "fnExactPlaceBells", fn := fun _ => fun
  | [d1, d2] => { results := [.lit (.bool true)], args := [d1, d2] }
  | _ => none }
def fnExactPlaceBellsRow : OpenClaim := { program := "ytalpkcpikmpedaa", sum := "1ffb655514a20850cdc301ce6f7a82d3a653b1e4f9d511c7dca70da6b6718898", func := "loop.example/g00894/laws.FnExactPlaceBells", spec := "fnExactPlaceBells", apart := false }
def FnExactPlaceBellsSaid : Prop := fnExactPlaceBellsRow.holds Try.pinned (OpenSpec.ofChange fnExactPlaceBellsSpec)

/-- ITS FALSE NEIGHBOUR: 'it returns false'. Refute it at one input. -/
def fnExactPlaceBellsWrong : ChangeSpec := { name := "fnExactPlaceBells", fn := fun _ => fun
  | [d1, d2] => { results := [.lit (.bool false)], args := [d1, d2] }
  | _ => none }
def FnExactPlaceBellsWrongFalsely : Prop := fnExactPlaceBellsRow.holds Try.pinned (OpenSpec.ofChange fnExactPlaceBellsWrong)

/-- 'laws.FnExactCoursePath': WHATEVER THE INPUT: true; the input reads as it did. -/
def fnExactCoursePathSpec : ChangeSpec := { name := "fnExactCoursePath", fn := fun _ => fun
  | [d1, d2] => { results := [.lit (.bool true)], args := [d1, d2] }
  | _ => none }
def fnExactCoursePathRow : OpenClaim := { program := "ytalpkcpikmpedaa", sum := "1ffb655514a20850cdc301ce6f7a82d3a653b1e4f9d511c7dca70da6b6718898", func := "loop.example/g00894/laws.FnExactCoursePath", spec := "fnExactCoursePath", apart := false }
def FnExactCoursePathSaid : Prop := fnExactCoursePathRow.holds Try.pinned (OpenSpec.ofChange fnExactCoursePathSpec)

/-- ITS FALSE NEIGHBOUR: 'it returns false'. Refute it at one input. -/
def fnExactCoursePathWrong : ChangeSpec := { name := "fnExactCoursePath", fn := fun _ => fun
  | [d1, d2] => { results := [.lit (.bool false)], args := [d1, d2] }
  | _ => none }
def FnExactCoursePathWrongFalsely : Prop := fnExactCoursePathRow.holds Try.pinned (OpenSpec.ofChange fnExactCoursePathWrong)

/-- 'laws.FnExactWorkText': WHATEVER THE INPUT: true; the input reads as it did. -/
def fnExactWorkTextSpec : ChangeSpec := { name := "fnExactWorkText", fn := fun _ => fun
  | [d1, d2] => { results := [.lit (.bool true)], args := [d1, d2] }
  | _ => none }
def fnExactWorkTextRow : OpenClaim := { program := "ytalpkcpikmpedaa", sum := "1ffb655514a20850cdc301ce6f7a82d3a653b1e4f9d511c7dca70da6b6718898", func := "loop.example/g00894/laws.FnExactWorkText", spec := "fnExactWorkText", apart := false }
def FnExactWorkTextSaid : Prop := fnExactWorkTextRow.holds Try.pinned (OpenSpec.ofChange fnExactWorkTextSpec)

/-- ITS FALSE NEIGHBOUR: 'it returns false'. Refute it at one input. -/
def fnExactWorkTextWrong : ChangeSpec := { name := "fnExactWorkText", fn := fun _ => fun
  | [d1, d2] => { results := [.lit (.bool false)], args := [d1, d2] }
  | _ => none }
def FnExactWorkTextWrongFalsely : Prop := fnExactWorkTextRow.holds Try.pinned (OpenSpec.ofChange fnExactWorkTextWrong)

/- THE SECOND FORM. 'bulk': how many values and letters a reading holds, each counted each time it is reached (what is shared counts as often as it is met; a slice's spare places count too). A statement '..UptoSaid' is the law's where the arguments, and the package variables that the reading takes, are together of bulk at most 1048576: NARROWER than '..Said'. Prove '..Said' where nothing that the law and all that it calls make is longer than what came in: it says more and counts as full. Else prove '..UptoSaid'. A law counts once. -/
mutual
def uptoBulk {H : Type} : DataW H → Nat
  | .lit (.string bytes) => bytes.length + 1
  | .lit _ => 1
  | .nil => 1
  | .ptr d => uptoBulk d + 1
  | .slice elems spare => uptoBulkAll elems + uptoBulkAll spare + 1
  | .agg parts => uptoBulkAll parts + 1
  | .iface _ d => uptoBulk d + 1
  | .map entries => uptoBulkEntries entries + 1
  | .held _ => 1
def uptoBulkAll {H : Type} : List (DataW H) → Nat
  | [] => 0
  | d :: r => uptoBulk d + uptoBulkAll r
def uptoBulkEntries {H : Type} : List (Lit × DataW H) → Nat
  | [] => 0
  | x :: r => uptoBulkEntry x + uptoBulkEntries r
def uptoBulkEntry {H : Type} : Lit × DataW H → Nat
  | (.string bytes, d) => bytes.length + uptoBulk d + 1
  | (_, d) => uptoBulk d + 1
 end
def uptoSmall : (H : Type) → List (DataW H) → Bool := fun _ ds => decide (uptoBulkAll ds ≤ 1048576)
def OpenSpec.upto (s : _root_.Go.ChangeSpec) : _root_.Go.OpenSpec := { _root_.Go.OpenSpec.ofChange s with cond := some uptoSmall }

/-- 'laws.FnExactGoodMethod', WHERE WHAT IT READS IS OF BULK AT MOST 1048576: true; the input reads as it did. -/
def fnExactGoodMethodUptoRow : OpenClaim := { program := "ytalpkcpikmpedaa", sum := "1ffb655514a20850cdc301ce6f7a82d3a653b1e4f9d511c7dca70da6b6718898", func := "loop.example/g00894/laws.FnExactGoodMethod", spec := "fnExactGoodMethod", apart := false, narrowed := true }
def FnExactGoodMethodUptoSaid : Prop := fnExactGoodMethodUptoRow.holds Try.pinned (OpenSpec.upto fnExactGoodMethodSpec)

/-- 'laws.FnExactLeadHead', WHERE WHAT IT READS IS OF BULK AT MOST 1048576: true; the input reads as it did. -/
def fnExactLeadHeadUptoRow : OpenClaim := { program := "ytalpkcpikmpedaa", sum := "1ffb655514a20850cdc301ce6f7a82d3a653b1e4f9d511c7dca70da6b6718898", func := "loop.example/g00894/laws.FnExactLeadHead", spec := "fnExactLeadHead", apart := false, narrowed := true }
def FnExactLeadHeadUptoSaid : Prop := fnExactLeadHeadUptoRow.holds Try.pinned (OpenSpec.upto fnExactLeadHeadSpec)

/-- 'laws.FnExactLeadsIn', WHERE WHAT IT READS IS OF BULK AT MOST 1048576: true; the input reads as it did. -/
def fnExactLeadsInUptoRow : OpenClaim := { program := "ytalpkcpikmpedaa", sum := "1ffb655514a20850cdc301ce6f7a82d3a653b1e4f9d511c7dca70da6b6718898", func := "loop.example/g00894/laws.FnExactLeadsIn", spec := "fnExactLeadsIn", apart := false, narrowed := true }
def FnExactLeadsInUptoSaid : Prop := fnExactLeadsInUptoRow.holds Try.pinned (OpenSpec.upto fnExactLeadsInSpec)

/-- 'laws.FnExactLeadRows', WHERE WHAT IT READS IS OF BULK AT MOST 1048576: true; the input reads as it did. -/
def fnExactLeadRowsUptoRow : OpenClaim := { program := "ytalpkcpikmpedaa", sum := "1ffb655514a20850cdc301ce6f7a82d3a653b1e4f9d511c7dca70da6b6718898", func := "loop.example/g00894/laws.FnExactLeadRows", spec := "fnExactLeadRows", apart := false, narrowed := true }
def FnExactLeadRowsUptoSaid : Prop := fnExactLeadRowsUptoRow.holds Try.pinned (OpenSpec.upto fnExactLeadRowsSpec)

/-- 'laws.FnExactCourseRows', WHERE WHAT IT READS IS OF BULK AT MOST 1048576: true; the input reads as it did. -/
def fnExactCourseRowsUptoRow : OpenClaim := { program := "ytalpkcpikmpedaa", sum := "1ffb655514a20850cdc301ce6f7a82d3a653b1e4f9d511c7dca70da6b6718898", func := "loop.example/g00894/laws.FnExactCourseRows", spec := "fnExactCourseRows", apart := false, narrowed := true }
def FnExactCourseRowsUptoSaid : Prop := fnExactCourseRowsUptoRow.holds Try.pinned (OpenSpec.upto fnExactCourseRowsSpec)

/-- 'laws.FnExactStillBells', WHERE WHAT IT READS IS OF BULK AT MOST 1048576: true; the input reads as it did. -/
def fnExactStillBellsUptoRow : OpenClaim := { program := "ytalpkcpikmpedaa", sum := "1ffb655514a20850cdc301ce6f7a82d3a653b1e4f9d511c7dca70da6b6718898", func := "loop.example/g00894/laws.FnExactStillBells", spec := "fnExactStillBells", unfollowed := true, recurses := true, apart := false, narrowed := true }
def FnExactStillBellsUptoSaid : Prop := fnExactStillBellsUptoRow.holds Try.pinned (OpenSpec.upto fnExactStillBellsSpec)

/-- 'laws.FnExactHuntBells', WHERE WHAT IT READS IS OF BULK AT MOST 1048576: true; the input reads as it did. -/
def fnExactHuntBellsUptoRow : OpenClaim := { program := "ytalpkcpikmpedaa", sum := "1ffb655514a20850cdc301ce6f7a82d3a653b1e4f9d511c7dca70da6b6718898", func := "loop.example/g00894/laws.FnExactHuntBells", spec := "fnExactHuntBells", unfollowed := true, recurses := true, apart := false, narrowed := true }
def FnExactHuntBellsUptoSaid : Prop := fnExactHuntBellsUptoRow.holds Try.pinned (OpenSpec.upto fnExactHuntBellsSpec)

/-- 'laws.FnExactPathOf', WHERE WHAT IT READS IS OF BULK AT MOST 1048576: true; the input reads as it did. -/
def fnExactPathOfUptoRow : OpenClaim := { program := "ytalpkcpikmpedaa", sum := "1ffb655514a20850cdc301ce6f7a82d3a653b1e4f9d511c7dca70da6b6718898", func := "loop.example/g00894/laws.FnExactPathOf", spec := "fnExactPathOf", apart := false, narrowed := true }
def FnExactPathOfUptoSaid : Prop := fnExactPathOfUptoRow.holds Try.pinned (OpenSpec.upto fnExactPathOfSpec)

/-- 'laws.FnExactPathsOf', WHERE WHAT IT READS IS OF BULK AT MOST 1048576: true; the input reads as it did. -/
def fnExactPathsOfUptoRow : OpenClaim := { program := "ytalpkcpikmpedaa", sum := "1ffb655514a20850cdc301ce6f7a82d3a653b1e4f9d511c7dca70da6b6718898", func := "loop.example/g00894/laws.FnExactPathsOf", spec := "fnExactPathsOf", apart := false, narrowed := true }
def FnExactPathsOfUptoSaid : Prop := fnExactPathsOfUptoRow.holds Try.pinned (OpenSpec.upto fnExactPathsOfSpec)

/-- 'laws.FnExactPlaceBells', WHERE WHAT IT READS IS OF BULK AT MOST 1048576: true; the input reads as it did. -/
def fnExactPlaceBellsUptoRow : OpenClaim := { program := "ytalpkcpikmpedaa", sum := "1ffb655514a20850cdc301ce6f7a82d3a653b1e4f9d511c7dca70da6b6718898", func := "loop.example/g00894/laws.FnExactPlaceBells", spec := "fnExactPlaceBells", apart := false, narrowed := true }
def FnExactPlaceBellsUptoSaid : Prop := fnExactPlaceBellsUptoRow.holds Try.pinned (OpenSpec.upto fnExactPlaceBellsSpec)

/-- 'laws.FnExactCoursePath', WHERE WHAT IT READS IS OF BULK AT MOST 1048576: true; the input reads as it did. -/
def fnExactCoursePathUptoRow : OpenClaim := { program := "ytalpkcpikmpedaa", sum := "1ffb655514a20850cdc301ce6f7a82d3a653b1e4f9d511c7dca70da6b6718898", func := "loop.example/g00894/laws.FnExactCoursePath", spec := "fnExactCoursePath", apart := false, narrowed := true }
def FnExactCoursePathUptoSaid : Prop := fnExactCoursePathUptoRow.holds Try.pinned (OpenSpec.upto fnExactCoursePathSpec)

/-- 'laws.FnExactWorkText', WHERE WHAT IT READS IS OF BULK AT MOST 1048576: true; the input reads as it did. -/
def fnExactWorkTextUptoRow : OpenClaim := { program := "ytalpkcpikmpedaa", sum := "1ffb655514a20850cdc301ce6f7a82d3a653b1e4f9d511c7dca70da6b6718898", func := "loop.example/g00894/laws.FnExactWorkText", spec := "fnExactWorkText", apart := false, narrowed := true }
def FnExactWorkTextUptoSaid : Prop := fnExactWorkTextUptoRow.holds Try.pinned (OpenSpec.upto fnExactWorkTextSpec)

end Rows
end Go.Proofs.Ytalpkcpikmpedaa
