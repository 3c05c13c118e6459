/-
  No cell of these rows narrows 'for every input' (looked for: loops, veiled, ifaces, maps, wideKeys, modest, calm, conditions, laid).
  DERIVED. THE GIVEN ROWS OF THIS SEAT. 12 by the template 'for every input the law returns true; each argument reads behind the call as it read before'; 0 by the template 'total and deterministic' (their statements: YtpdmogbebahebaaTotals.lean).
  GIVEN WITH THE SEED: the statements are not yours to turn. If you find one false, say at which input.
  Laid BY PROGRAM, IN A SANDBOX (cutbox-rows.mjs): the forced cells as the released guide's own fill.sh prints them over the translation 9414367629ef2a4b… (all of the seat's roots in one cut). By AI agents, Wed Nov 11 2026. No macro, syntax, notation, axiom, sorry.
-/
import Derived.Test.YtpdmogbebahebaaChecked
import GoSem.Claim
import GoSem.ClaimJoined
import GoSem.ClaimMapViews
import Derived.JoinedTies
import Derived.KernelRfl
namespace Go.Proofs.Ytpdmogbebahebaa
/- THE CELL 'sum', in the pinned program and in every row, IS THE sha256 OF THE DUMP (.gsa) THAT YtpdmogbebahebaaProg.lean LOADS. Nothing in Lean hashes anything: it is a label: what it is worth is what the hold of that sum in a sandbox is worth. -/
noncomputable def Try.pinned : Pinned := { name := "ytpdmogbebahebaa", sum := "9414367629ef2a4b52b95a6c5b7a8433af304779a90e987f33d4afbcbd93f3f5", checked := Try.checked }
namespace Rows
def none {H : Type} : Left H := { results := [], args := [] }

/-- 'laws.FnExactGoodChange': WHATEVER THE INPUT: true; the input reads as it did. -/
def fnExactGoodChangeSpec : ChangeSpec := { name := "fnExactGoodChange", fn := fun _ => fun
  | [d1, d2] => { results := [.lit (.bool true)], args := [d1, d2] }
  | _ => none }
def fnExactGoodChangeRow : OpenClaim := { program := "ytpdmogbebahebaa", sum := "9414367629ef2a4b52b95a6c5b7a8433af304779a90e987f33d4afbcbd93f3f5", func := "loop.example/g00894/laws.FnExactGoodChange", spec := "fnExactGoodChange", apart := false }
def FnExactGoodChangeSaid : Prop := fnExactGoodChangeRow.holds Try.pinned (OpenSpec.ofChange fnExactGoodChangeSpec)

/-- ITS FALSE NEIGHBOUR: 'it returns false'. Refute it at one input. -/
def fnExactGoodChangeWrong : ChangeSpec := { name := "fnExactGoodChange", fn := fun _ => fun
  | [d1, d2] => { results := [.lit (.bool false)], args := [d1, d2] }
  | _ => none }
def FnExactGoodChangeWrongFalsely : Prop := fnExactGoodChangeRow.holds Try.pinned (OpenSpec.ofChange fnExactGoodChangeWrong)

/-- 'laws.FnExactTidyChange': WHATEVER THE INPUT: true; the input reads as it did. -/
def fnExactTidyChangeSpec : ChangeSpec := { name := "fnExactTidyChange", fn := fun _ => fun
  | [d1, d2] => { results := [.lit (.bool true)], args := [d1, d2] }
  | _ => none }
def fnExactTidyChangeRow : OpenClaim := { program := "ytpdmogbebahebaa", sum := "9414367629ef2a4b52b95a6c5b7a8433af304779a90e987f33d4afbcbd93f3f5", func := "loop.example/g00894/laws.FnExactTidyChange", spec := "fnExactTidyChange", recurses := true, apart := false }
def FnExactTidyChangeSaid : Prop := fnExactTidyChangeRow.holds Try.pinned (OpenSpec.ofChange fnExactTidyChangeSpec)

/-- ITS FALSE NEIGHBOUR: 'it returns false'. Refute it at one input. -/
def fnExactTidyChangeWrong : ChangeSpec := { name := "fnExactTidyChange", fn := fun _ => fun
  | [d1, d2] => { results := [.lit (.bool false)], args := [d1, d2] }
  | _ => none }
def FnExactTidyChangeWrongFalsely : Prop := fnExactTidyChangeRow.holds Try.pinned (OpenSpec.ofChange fnExactTidyChangeWrong)

/-- 'laws.FnExactPlacesOf': WHATEVER THE INPUT: true; the input reads as it did. -/
def fnExactPlacesOfSpec : ChangeSpec := { name := "fnExactPlacesOf", fn := fun _ => fun
  | [d1, d2] => { results := [.lit (.bool true)], args := [d1, d2] }
  | _ => none }
def fnExactPlacesOfRow : OpenClaim := { program := "ytpdmogbebahebaa", sum := "9414367629ef2a4b52b95a6c5b7a8433af304779a90e987f33d4afbcbd93f3f5", func := "loop.example/g00894/laws.FnExactPlacesOf", spec := "fnExactPlacesOf", apart := false }
def FnExactPlacesOfSaid : Prop := fnExactPlacesOfRow.holds Try.pinned (OpenSpec.ofChange fnExactPlacesOfSpec)

/-- ITS FALSE NEIGHBOUR: 'it returns false'. Refute it at one input. -/
def fnExactPlacesOfWrong : ChangeSpec := { name := "fnExactPlacesOf", fn := fun _ => fun
  | [d1, d2] => { results := [.lit (.bool false)], args := [d1, d2] }
  | _ => none }
def FnExactPlacesOfWrongFalsely : Prop := fnExactPlacesOfRow.holds Try.pinned (OpenSpec.ofChange fnExactPlacesOfWrong)

/-- 'laws.FnExactChangeRow': WHATEVER THE INPUT: true; the input reads as it did. -/
def fnExactChangeRowSpec : ChangeSpec := { name := "fnExactChangeRow", fn := fun _ => fun
  | [d1, d2] => { results := [.lit (.bool true)], args := [d1, d2] }
  | _ => none }
def fnExactChangeRowRow : OpenClaim := { program := "ytpdmogbebahebaa", sum := "9414367629ef2a4b52b95a6c5b7a8433af304779a90e987f33d4afbcbd93f3f5", func := "loop.example/g00894/laws.FnExactChangeRow", spec := "fnExactChangeRow", apart := false }
def FnExactChangeRowSaid : Prop := fnExactChangeRowRow.holds Try.pinned (OpenSpec.ofChange fnExactChangeRowSpec)

/-- ITS FALSE NEIGHBOUR: 'it returns false'. Refute it at one input. -/
def fnExactChangeRowWrong : ChangeSpec := { name := "fnExactChangeRow", fn := fun _ => fun
  | [d1, d2] => { results := [.lit (.bool false)], args := [d1, d2] }
  | _ => none }
def FnExactChangeRowWrongFalsely : Prop := fnExactChangeRowRow.holds Try.pinned (OpenSpec.ofChange fnExactChangeRowWrong)

/-- 'laws.FnExactMirrorChange': WHATEVER THE INPUT: true; the input reads as it did. -/
def fnExactMirrorChangeSpec : ChangeSpec := { name := "fnExactMirrorChange", fn := fun _ => fun
  | [d1, d2] => { results := [.lit (.bool true)], args := [d1, d2] }
  | _ => none }
def fnExactMirrorChangeRow : OpenClaim := { program := "ytpdmogbebahebaa", sum := "9414367629ef2a4b52b95a6c5b7a8433af304779a90e987f33d4afbcbd93f3f5", func := "loop.example/g00894/laws.FnExactMirrorChange", spec := "fnExactMirrorChange", recurses := true, apart := false }
def FnExactMirrorChangeSaid : Prop := fnExactMirrorChangeRow.holds Try.pinned (OpenSpec.ofChange fnExactMirrorChangeSpec)

/-- ITS FALSE NEIGHBOUR: 'it returns false'. Refute it at one input. -/
def fnExactMirrorChangeWrong : ChangeSpec := { name := "fnExactMirrorChange", fn := fun _ => fun
  | [d1, d2] => { results := [.lit (.bool false)], args := [d1, d2] }
  | _ => none }
def FnExactMirrorChangeWrongFalsely : Prop := fnExactMirrorChangeRow.holds Try.pinned (OpenSpec.ofChange fnExactMirrorChangeWrong)

/-- 'laws.FnExactSwapsOf': WHATEVER THE INPUT: true; the input reads as it did. -/
def fnExactSwapsOfSpec : ChangeSpec := { name := "fnExactSwapsOf", fn := fun _ => fun
  | [d1, d2] => { results := [.lit (.bool true)], args := [d1, d2] }
  | _ => none }
def fnExactSwapsOfRow : OpenClaim := { program := "ytpdmogbebahebaa", sum := "9414367629ef2a4b52b95a6c5b7a8433af304779a90e987f33d4afbcbd93f3f5", func := "loop.example/g00894/laws.FnExactSwapsOf", spec := "fnExactSwapsOf", apart := false }
def FnExactSwapsOfSaid : Prop := fnExactSwapsOfRow.holds Try.pinned (OpenSpec.ofChange fnExactSwapsOfSpec)

/-- ITS FALSE NEIGHBOUR: 'it returns false'. Refute it at one input. -/
def fnExactSwapsOfWrong : ChangeSpec := { name := "fnExactSwapsOf", fn := fun _ => fun
  | [d1, d2] => { results := [.lit (.bool false)], args := [d1, d2] }
  | _ => none }
def FnExactSwapsOfWrongFalsely : Prop := fnExactSwapsOfRow.holds Try.pinned (OpenSpec.ofChange fnExactSwapsOfWrong)

/-- 'laws.FnExactBetweenRows': WHATEVER THE INPUT: true; the input reads as it did. -/
def fnExactBetweenRowsSpec : ChangeSpec := { name := "fnExactBetweenRows", fn := fun _ => fun
  | [d1, d2] => { results := [.lit (.bool true)], args := [d1, d2] }
  | _ => none }
def fnExactBetweenRowsRow : OpenClaim := { program := "ytpdmogbebahebaa", sum := "9414367629ef2a4b52b95a6c5b7a8433af304779a90e987f33d4afbcbd93f3f5", func := "loop.example/g00894/laws.FnExactBetweenRows", spec := "fnExactBetweenRows", recurses := true, apart := false }
def FnExactBetweenRowsSaid : Prop := fnExactBetweenRowsRow.holds Try.pinned (OpenSpec.ofChange fnExactBetweenRowsSpec)

/-- ITS FALSE NEIGHBOUR: 'it returns false'. Refute it at one input. -/
def fnExactBetweenRowsWrong : ChangeSpec := { name := "fnExactBetweenRows", fn := fun _ => fun
  | [d1, d2] => { results := [.lit (.bool false)], args := [d1, d2] }
  | _ => none }
def FnExactBetweenRowsWrongFalsely : Prop := fnExactBetweenRowsRow.holds Try.pinned (OpenSpec.ofChange fnExactBetweenRowsWrong)

/-- 'laws.FnExactApply': WHATEVER THE INPUT: true; the input reads as it did. -/
def fnExactApplySpec : ChangeSpec := { name := "fnExactApply", fn := fun _ => fun
  | [d1, d2] => { results := [.lit (.bool true)], args := [d1, d2] }
  | _ => none }
def fnExactApplyRow : OpenClaim := { program := "ytpdmogbebahebaa", sum := "9414367629ef2a4b52b95a6c5b7a8433af304779a90e987f33d4afbcbd93f3f5", func := "loop.example/g00894/laws.FnExactApply", spec := "fnExactApply", apart := false }
def FnExactApplySaid : Prop := fnExactApplyRow.holds Try.pinned (OpenSpec.ofChange fnExactApplySpec)

/-- ITS FALSE NEIGHBOUR: 'it returns false'. Refute it at one input. -/
def fnExactApplyWrong : ChangeSpec := { name := "fnExactApply", fn := fun _ => fun
  | [d1, d2] => { results := [.lit (.bool false)], args := [d1, d2] }
  | _ => none }
def FnExactApplyWrongFalsely : Prop := fnExactApplyRow.holds Try.pinned (OpenSpec.ofChange fnExactApplyWrong)

/-- 'laws.FnExactNotationText': WHATEVER THE INPUT: true; the input reads as it did. -/
def fnExactNotationTextSpec : ChangeSpec := { name := "fnExactNotationText", fn := fun _ => fun
  | [d1, d2] => { results := [.lit (.bool true)], args := [d1, d2] }
  | _ => none }
def fnExactNotationTextRow : OpenClaim := { program := "ytpdmogbebahebaa", sum := "9414367629ef2a4b52b95a6c5b7a8433af304779a90e987f33d4afbcbd93f3f5", func := "loop.example/g00894/laws.FnExactNotationText", spec := "fnExactNotationText", apart := false }
def FnExactNotationTextSaid : Prop := fnExactNotationTextRow.holds Try.pinned (OpenSpec.ofChange fnExactNotationTextSpec)

/-- ITS FALSE NEIGHBOUR: 'it returns false'. Refute it at one input. -/
def fnExactNotationTextWrong : ChangeSpec := { name := "fnExactNotationText", fn := fun _ => fun
  | [d1, d2] => { results := [.lit (.bool false)], args := [d1, d2] }
  | _ => none }
def FnExactNotationTextWrongFalsely : Prop := fnExactNotationTextRow.holds Try.pinned (OpenSpec.ofChange fnExactNotationTextWrong)

/-- 'laws.FnExactMirrorAll': WHATEVER THE INPUT: true; the input reads as it did. -/
def fnExactMirrorAllSpec : ChangeSpec := { name := "fnExactMirrorAll", fn := fun _ => fun
  | [d] => { results := [.lit (.bool true)], args := [d] }
  | _ => none }
def fnExactMirrorAllRow : OpenClaim := { program := "ytpdmogbebahebaa", sum := "9414367629ef2a4b52b95a6c5b7a8433af304779a90e987f33d4afbcbd93f3f5", func := "loop.example/g00894/laws.FnExactMirrorAll", spec := "fnExactMirrorAll", apart := false }
def FnExactMirrorAllSaid : Prop := fnExactMirrorAllRow.holds Try.pinned (OpenSpec.ofChange fnExactMirrorAllSpec)

/-- ITS FALSE NEIGHBOUR: 'it returns false'. Refute it at one input. -/
def fnExactMirrorAllWrong : ChangeSpec := { name := "fnExactMirrorAll", fn := fun _ => fun
  | [d] => { results := [.lit (.bool false)], args := [d] }
  | _ => none }
def FnExactMirrorAllWrongFalsely : Prop := fnExactMirrorAllRow.holds Try.pinned (OpenSpec.ofChange fnExactMirrorAllWrong)

/-- 'laws.FnExactHalvesOf': WHATEVER THE INPUT: true; the input reads as it did. -/
def fnExactHalvesOfSpec : ChangeSpec := { name := "fnExactHalvesOf", fn := fun _ => fun
  | [d1, d2] => { results := [.lit (.bool true)], args := [d1, d2] }
  | _ => none }
def fnExactHalvesOfRow : OpenClaim := { program := "ytpdmogbebahebaa", sum := "9414367629ef2a4b52b95a6c5b7a8433af304779a90e987f33d4afbcbd93f3f5", func := "loop.example/g00894/laws.FnExactHalvesOf", spec := "fnExactHalvesOf", apart := false }
def FnExactHalvesOfSaid : Prop := fnExactHalvesOfRow.holds Try.pinned (OpenSpec.ofChange fnExactHalvesOfSpec)

/-- ITS FALSE NEIGHBOUR: 'it returns false'. Refute it at one input. -/
def fnExactHalvesOfWrong : ChangeSpec := { name := "fnExactHalvesOf", fn := fun _ => fun
  | [d1, d2] => { results := [.lit (.bool false)], args := [d1, d2] }
  | _ => none }
def FnExactHalvesOfWrongFalsely : Prop := fnExactHalvesOfRow.holds Try.pinned (OpenSpec.ofChange fnExactHalvesOfWrong)

/-- 'laws.FnExactShortNotation': WHATEVER THE INPUT: true; the input reads as it did. -/
def fnExactShortNotationSpec : ChangeSpec := { name := "fnExactShortNotation", fn := fun _ => fun
  | [d1, d2] => { results := [.lit (.bool true)], args := [d1, d2] }
  | _ => none }
def fnExactShortNotationRow : OpenClaim := { program := "ytpdmogbebahebaa", sum := "9414367629ef2a4b52b95a6c5b7a8433af304779a90e987f33d4afbcbd93f3f5", func := "loop.example/g00894/laws.FnExactShortNotation", spec := "fnExactShortNotation", apart := false }
def FnExactShortNotationSaid : Prop := fnExactShortNotationRow.holds Try.pinned (OpenSpec.ofChange fnExactShortNotationSpec)

/-- ITS FALSE NEIGHBOUR: 'it returns false'. Refute it at one input. -/
def fnExactShortNotationWrong : ChangeSpec := { name := "fnExactShortNotation", fn := fun _ => fun
  | [d1, d2] => { results := [.lit (.bool false)], args := [d1, d2] }
  | _ => none }
def FnExactShortNotationWrongFalsely : Prop := fnExactShortNotationRow.holds Try.pinned (OpenSpec.ofChange fnExactShortNotationWrong)

/- THE SECOND FORM. 'bulk': how many values and letters a reading holds, each counted each time it is reached (what is shared counts as often as it is met; a slice's spare places count too). A statement '..UptoSaid' is the law's where the arguments, and the package variables that the reading takes, are together of bulk at most 1048576: NARROWER than '..Said'. Prove '..Said' where nothing that the law and all that it calls make is longer than what came in: it says more and counts as full. Else prove '..UptoSaid'. A law counts once. -/
mutual
def uptoBulk {H : Type} : DataW H → Nat
  | .lit (.string bytes) => bytes.length + 1
  | .lit _ => 1
  | .nil => 1
  | .ptr d => uptoBulk d + 1
  | .slice elems spare => uptoBulkAll elems + uptoBulkAll spare + 1
  | .agg parts => uptoBulkAll parts + 1
  | .iface _ d => uptoBulk d + 1
  | .map entries => uptoBulkEntries entries + 1
  | .held _ => 1
def uptoBulkAll {H : Type} : List (DataW H) → Nat
  | [] => 0
  | d :: r => uptoBulk d + uptoBulkAll r
def uptoBulkEntries {H : Type} : List (Lit × DataW H) → Nat
  | [] => 0
  | x :: r => uptoBulkEntry x + uptoBulkEntries r
def uptoBulkEntry {H : Type} : Lit × DataW H → Nat
  | (.string bytes, d) => bytes.length + uptoBulk d + 1
  | (_, d) => uptoBulk d + 1
 end
def uptoSmall : (H : Type) → List (DataW H) → Bool := fun _ ds => decide (uptoBulkAll ds ≤ 1048576)
def OpenSpec.upto (s : _root_.Go.ChangeSpec) : _root_.Go.OpenSpec := { _root_.Go.OpenSpec.ofChange s with cond := some uptoSmall }

/-- 'laws.FnExactGoodChange', WHERE WHAT IT READS IS OF BULK AT MOST 1048576: true; the input reads as it did. -/
def fnExactGoodChangeUptoRow : OpenClaim := { program := "ytpdmogbebahebaa", sum := "9414367629ef2a4b52b95a6c5b7a8433af304779a90e987f33d4afbcbd93f3f5", func := "loop.example/g00894/laws.FnExactGoodChange", spec := "fnExactGoodChange", apart := false, narrowed := true }
def FnExactGoodChangeUptoSaid : Prop := fnExactGoodChangeUptoRow.holds Try.pinned (OpenSpec.upto fnExactGoodChangeSpec)

/-- 'laws.FnExactTidyChange', WHERE WHAT IT READS IS OF BULK AT MOST 1048576: true; the input reads as it did. -/
def fnExactTidyChangeUptoRow : OpenClaim := { program := "ytpdmogbebahebaa", sum := "9414367629ef2a4b52b95a6c5b7a8433af304779a90e987f33d4afbcbd93f3f5", func := "loop.example/g00894/laws.FnExactTidyChange", spec := "fnExactTidyChange", recurses := true, apart := false, narrowed := true }
def FnExactTidyChangeUptoSaid : Prop := fnExactTidyChangeUptoRow.holds Try.pinned (OpenSpec.upto fnExactTidyChangeSpec)

/-- 'laws.FnExactPlacesOf', WHERE WHAT IT READS IS OF BULK AT MOST 1048576: true; the input reads as it did. -/
def fnExactPlacesOfUptoRow : OpenClaim := { program := "ytpdmogbebahebaa", sum := "9414367629ef2a4b52b95a6c5b7a8433af304779a90e987f33d4afbcbd93f3f5", func := "loop.example/g00894/laws.FnExactPlacesOf", spec := "fnExactPlacesOf", apart := false, narrowed := true }
def FnExactPlacesOfUptoSaid : Prop := fnExactPlacesOfUptoRow.holds Try.pinned (OpenSpec.upto fnExactPlacesOfSpec)

/-- 'laws.FnExactChangeRow', WHERE WHAT IT READS IS OF BULK AT MOST 1048576: true; the input reads as it did. -/
def fnExactChangeRowUptoRow : OpenClaim := { program := "ytpdmogbebahebaa", sum := "9414367629ef2a4b52b95a6c5b7a8433af304779a90e987f33d4afbcbd93f3f5", func := "loop.example/g00894/laws.FnExactChangeRow", spec := "fnExactChangeRow", apart := false, narrowed := true }
def FnExactChangeRowUptoSaid : Prop := fnExactChangeRowUptoRow.holds Try.pinned (OpenSpec.upto fnExactChangeRowSpec)

/-- 'laws.FnExactMirrorChange', WHERE WHAT IT READS IS OF BULK AT MOST 1048576: true; the input reads as it did. -/
def fnExactMirrorChangeUptoRow : OpenClaim := { program := "ytpdmogbebahebaa", sum := "9414367629ef2a4b52b95a6c5b7a8433af304779a90e987f33d4afbcbd93f3f5", func := "loop.example/g00894/laws.FnExactMirrorChange", spec := "fnExactMirrorChange", recurses := true, apart := false, narrowed := true }
def FnExactMirrorChangeUptoSaid : Prop := fnExactMirrorChangeUptoRow.holds Try.pinned (OpenSpec.upto fnExactMirrorChangeSpec)

/-- 'laws.FnExactSwapsOf', WHERE WHAT IT READS IS OF BULK AT MOST 1048576: true; the input reads as it did. -/
def fnExactSwapsOfUptoRow : OpenClaim := { program := "ytpdmogbebahebaa", sum := "9414367629ef2a4b52b95a6c5b7a8433af304779a90e987f33d4afbcbd93f3f5", func := "loop.example/g00894/laws.FnExactSwapsOf", spec := "fnExactSwapsOf", apart := false, narrowed := true }
def FnExactSwapsOfUptoSaid : Prop := fnExactSwapsOfUptoRow.holds Try.pinned (OpenSpec.upto fnExactSwapsOfSpec)

/-- 'laws.FnExactBetweenRows', WHERE WHAT IT READS IS OF BULK AT MOST 1048576: true; the input reads as it did. -/
def fnExactBetweenRowsUptoRow : OpenClaim := { program := "ytpdmogbebahebaa", sum := "9414367629ef2a4b52b95a6c5b7a8433af304779a90e987f33d4afbcbd93f3f5", func := "loop.example/g00894/laws.FnExactBetweenRows", spec := "fnExactBetweenRows", recurses := true, apart := false, narrowed := true }
def FnExactBetweenRowsUptoSaid : Prop := fnExactBetweenRowsUptoRow.holds Try.pinned (OpenSpec.upto fnExactBetweenRowsSpec)

/-- 'laws.FnExactApply', WHERE WHAT IT READS IS OF BULK AT MOST 1048576: true; the input reads as it did. -/
def fnExactApplyUptoRow : OpenClaim := { program := "ytpdmogbebahebaa", sum := "9414367629ef2a4b52b95a6c5b7a8433af304779a90e987f33d4afbcbd93f3f5", func := "loop.example/g00894/laws.FnExactApply", spec := "fnExactApply", apart := false, narrowed := true }
def FnExactApplyUptoSaid : Prop := fnExactApplyUptoRow.holds Try.pinned (OpenSpec.upto fnExactApplySpec)

/-- 'laws.FnExactNotationText', WHERE WHAT IT READS IS OF BULK AT MOST 1048576: true; the input reads as it did. -/
def fnExactNotationTextUptoRow : OpenClaim := { program := "ytpdmogbebahebaa", sum := "9414367629ef2a4b52b95a6c5b7a8433af304779a90e987f33d4afbcbd93f3f5", func := "loop.example/g00894/laws.FnExactNotationText", spec := "fnExactNotationText", apart := false, narrowed := true }
def FnExactNotationTextUptoSaid : Prop := fnExactNotationTextUptoRow.holds Try.pinned (OpenSpec.upto fnExactNotationTextSpec)

/-- 'laws.FnExactMirrorAll', WHERE WHAT IT READS IS OF BULK AT MOST 1048576: true; the input reads as it did. -/
def fnExactMirrorAllUptoRow : OpenClaim := { program := "ytpdmogbebahebaa", sum := "9414367629ef2a4b52b95a6c5b7a8433af304779a90e987f33d4afbcbd93f3f5", func := "loop.example/g00894/laws.FnExactMirrorAll", spec := "fnExactMirrorAll", apart := false, narrowed := true }
def FnExactMirrorAllUptoSaid : Prop := fnExactMirrorAllUptoRow.holds Try.pinned (OpenSpec.upto fnExactMirrorAllSpec)

/-- 'laws.FnExactHalvesOf', WHERE WHAT IT READS IS OF BULK AT MOST 1048576: true; the input reads as it did. -/
def fnExactHalvesOfUptoRow : OpenClaim := { program := "ytpdmogbebahebaa", sum := "9414367629ef2a4b52b95a6c5b7a8433af304779a90e987f33d4afbcbd93f3f5", func := "loop.example/g00894/laws.FnExactHalvesOf", spec := "fnExactHalvesOf", apart := false, narrowed := true }
def FnExactHalvesOfUptoSaid : Prop := fnExactHalvesOfUptoRow.holds Try.pinned (OpenSpec.upto fnExactHalvesOfSpec)

/-- 'laws.FnExactShortNotation', WHERE WHAT IT READS IS OF BULK AT MOST 1048576: true; the input reads as it did. -/
def fnExactShortNotationUptoRow : OpenClaim := { program := "ytpdmogbebahebaa", sum := "9414367629ef2a4b52b95a6c5b7a8433af304779a90e987f33d4afbcbd93f3f5", func := "loop.example/g00894/laws.FnExactShortNotation", spec := "fnExactShortNotation", apart := false, narrowed := true }
def FnExactShortNotationUptoSaid : Prop := fnExactShortNotationUptoRow.holds Try.pinned (OpenSpec.upto fnExactShortNotationSpec)

end Rows
end Go.Proofs.Ytpdmogbebahebaa
