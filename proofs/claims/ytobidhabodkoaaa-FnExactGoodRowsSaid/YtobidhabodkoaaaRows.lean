/-
  No cell of these rows narrows 'for every input' (looked for: loops, veiled, ifaces, maps, wideKeys, modest, calm, conditions, laid).
  DERIVED. THE GIVEN ROWS OF THIS SEAT. 12 by the template 'for every input the law returns true; each argument reads behind the call as it read before'; 0 by the template 'total and deterministic' (their statements: YtobidhabodkoaaaTotals.lean).
  GIVEN WITH THE SEED: the statements are not yours to turn. If you find one false, say at which input.
  Laid BY PROGRAM, IN A SANDBOX (cutbox-rows.mjs): the forced cells as the released guide's own fill.sh prints them over the translation 0a4c2b97cb7e246d… (all of the seat's roots in one cut). By AI agents, Wed Nov 11 2026. No macro, syntax, notation, axiom, sorry.
-/
import Derived.Test.YtobidhabodkoaaaChecked
import GoSem.Claim
import GoSem.ClaimJoined
import GoSem.ClaimMapViews
import Derived.JoinedTies
import Derived.KernelRfl
namespace Go.Proofs.Ytobidhabodkoaaa
/- THE CELL 'sum', in the pinned program and in every row, IS THE sha256 OF THE DUMP (.gsa) THAT YtobidhabodkoaaaProg.lean LOADS. Nothing in Lean hashes anything: it is a label: what it is worth is what the hold of that sum in a sandbox is worth. -/
noncomputable def Try.pinned : Pinned := { name := "ytobidhabodkoaaa", sum := "0a4c2b97cb7e246d75564d798909e00dfbc5a3b8e7f031635c7925135aa13817", checked := Try.checked }
namespace Rows
def none {H : Type} : Left H := { results := [], args := [] }

/-- 'laws.FnExactConstants': WHATEVER THE INPUT: true; the input reads as it did. -/
def fnExactConstantsSpec : ChangeSpec := { name := "fnExactConstants", fn := fun _ => fun
  | [] => { results := [.lit (.bool true)], args := [] }
  | _ => none }
def fnExactConstantsRow : OpenClaim := { program := "ytobidhabodkoaaa", sum := "0a4c2b97cb7e246d75564d798909e00dfbc5a3b8e7f031635c7925135aa13817", func := "loop.example/g00894/laws.FnExactConstants", spec := "fnExactConstants", apart := false }
def FnExactConstantsSaid : Prop := fnExactConstantsRow.holds Try.pinned (OpenSpec.ofChange fnExactConstantsSpec)

/-- ITS FALSE NEIGHBOUR: 'it returns false'. Refute it at one input. -/
def fnExactConstantsWrong : ChangeSpec := { name := "fnExactConstants", fn := fun _ => fun
  | [] => { results := [.lit (.bool false)], args := [] }
  | _ => none }
def FnExactConstantsWrongFalsely : Prop := fnExactConstantsRow.holds Try.pinned (OpenSpec.ofChange fnExactConstantsWrong)

/-- 'laws.FnExactRoundsOf': WHATEVER THE INPUT: true; the input reads as it did. -/
def fnExactRoundsOfSpec : ChangeSpec := { name := "fnExactRoundsOf", fn := fun _ => fun
  | [d] => { results := [.lit (.bool true)], args := [d] }
  | _ => none }
def fnExactRoundsOfRow : OpenClaim := { program := "ytobidhabodkoaaa", sum := "0a4c2b97cb7e246d75564d798909e00dfbc5a3b8e7f031635c7925135aa13817", func := "loop.example/g00894/laws.FnExactRoundsOf", spec := "fnExactRoundsOf", apart := false }
def FnExactRoundsOfSaid : Prop := fnExactRoundsOfRow.holds Try.pinned (OpenSpec.ofChange fnExactRoundsOfSpec)

/-- ITS FALSE NEIGHBOUR: 'it returns false'. Refute it at one input. -/
def fnExactRoundsOfWrong : ChangeSpec := { name := "fnExactRoundsOf", fn := fun _ => fun
  | [d] => { results := [.lit (.bool false)], args := [d] }
  | _ => none }
def FnExactRoundsOfWrongFalsely : Prop := fnExactRoundsOfRow.holds Try.pinned (OpenSpec.ofChange fnExactRoundsOfWrong)

/-- 'laws.FnExactGoodRow': WHATEVER THE INPUT: true; the input reads as it did. -/
def fnExactGoodRowSpec : ChangeSpec := { name := "fnExactGoodRow", fn := fun _ => fun
  | [d] => { results := [.lit (.bool true)], args := [d] }
  | _ => none }
def fnExactGoodRowRow : OpenClaim := { program := "ytobidhabodkoaaa", sum := "0a4c2b97cb7e246d75564d798909e00dfbc5a3b8e7f031635c7925135aa13817", func := "loop.example/g00894/laws.FnExactGoodRow", spec := "fnExactGoodRow", apart := false }
def FnExactGoodRowSaid : Prop := fnExactGoodRowRow.holds Try.pinned (OpenSpec.ofChange fnExactGoodRowSpec)

/-- ITS FALSE NEIGHBOUR: 'it returns false'. Refute it at one input. -/
def fnExactGoodRowWrong : ChangeSpec := { name := "fnExactGoodRow", fn := fun _ => fun
  | [d] => { results := [.lit (.bool false)], args := [d] }
  | _ => none }
def FnExactGoodRowWrongFalsely : Prop := fnExactGoodRowRow.holds Try.pinned (OpenSpec.ofChange fnExactGoodRowWrong)

/-- 'laws.FnExactRowOf': WHATEVER THE INPUT: true; the input reads as it did. -/
def fnExactRowOfSpec : ChangeSpec := { name := "fnExactRowOf", fn := fun _ => fun
  | [d1, d2] => { results := [.lit (.bool true)], args := [d1, d2] }
  | _ => none }
def fnExactRowOfRow : OpenClaim := { program := "ytobidhabodkoaaa", sum := "0a4c2b97cb7e246d75564d798909e00dfbc5a3b8e7f031635c7925135aa13817", func := "loop.example/g00894/laws.FnExactRowOf", spec := "fnExactRowOf", apart := false }
def FnExactRowOfSaid : Prop := fnExactRowOfRow.holds Try.pinned (OpenSpec.ofChange fnExactRowOfSpec)

/-- ITS FALSE NEIGHBOUR: 'it returns false'. Refute it at one input. -/
def fnExactRowOfWrong : ChangeSpec := { name := "fnExactRowOf", fn := fun _ => fun
  | [d1, d2] => { results := [.lit (.bool false)], args := [d1, d2] }
  | _ => none }
def FnExactRowOfWrongFalsely : Prop := fnExactRowOfRow.holds Try.pinned (OpenSpec.ofChange fnExactRowOfWrong)

/-- 'laws.FnExactTurnRow': WHATEVER THE INPUT: true; the input reads as it did. -/
def fnExactTurnRowSpec : ChangeSpec := { name := "fnExactTurnRow", fn := fun _ => fun
  | [d] => { results := [.lit (.bool true)], args := [d] }
  | _ => none }
def fnExactTurnRowRow : OpenClaim := { program := "ytobidhabodkoaaa", sum := "0a4c2b97cb7e246d75564d798909e00dfbc5a3b8e7f031635c7925135aa13817", func := "loop.example/g00894/laws.FnExactTurnRow", spec := "fnExactTurnRow", apart := false }
def FnExactTurnRowSaid : Prop := fnExactTurnRowRow.holds Try.pinned (OpenSpec.ofChange fnExactTurnRowSpec)

/-- ITS FALSE NEIGHBOUR: 'it returns false'. Refute it at one input. -/
def fnExactTurnRowWrong : ChangeSpec := { name := "fnExactTurnRow", fn := fun _ => fun
  | [d] => { results := [.lit (.bool false)], args := [d] }
  | _ => none }
def FnExactTurnRowWrongFalsely : Prop := fnExactTurnRowRow.holds Try.pinned (OpenSpec.ofChange fnExactTurnRowWrong)

/-- 'laws.FnExactTimes': WHATEVER THE INPUT: true; the input reads as it did. -/
def fnExactTimesSpec : ChangeSpec := { name := "fnExactTimes", fn := fun _ => fun
  | [d1, d2] => { results := [.lit (.bool true)], args := [d1, d2] }
  | _ => none }
def fnExactTimesRow : OpenClaim := { program := "ytobidhabodkoaaa", sum := "0a4c2b97cb7e246d75564d798909e00dfbc5a3b8e7f031635c7925135aa13817", func := "loop.example/g00894/laws.FnExactTimes", spec := "fnExactTimes", apart := false }
def FnExactTimesSaid : Prop := fnExactTimesRow.holds Try.pinned (OpenSpec.ofChange fnExactTimesSpec)

/-- ITS FALSE NEIGHBOUR: 'it returns false'. Refute it at one input. -/
def fnExactTimesWrong : ChangeSpec := { name := "fnExactTimes", fn := fun _ => fun
  | [d1, d2] => { results := [.lit (.bool false)], args := [d1, d2] }
  | _ => none }
def FnExactTimesWrongFalsely : Prop := fnExactTimesRow.holds Try.pinned (OpenSpec.ofChange fnExactTimesWrong)

/-- 'laws.FnExactIsEven': WHATEVER THE INPUT: true; the input reads as it did. -/
def fnExactIsEvenSpec : ChangeSpec := { name := "fnExactIsEven", fn := fun _ => fun
  | [d] => { results := [.lit (.bool true)], args := [d] }
  | _ => none }
def fnExactIsEvenRow : OpenClaim := { program := "ytobidhabodkoaaa", sum := "0a4c2b97cb7e246d75564d798909e00dfbc5a3b8e7f031635c7925135aa13817", func := "loop.example/g00894/laws.FnExactIsEven", spec := "fnExactIsEven", apart := false }
def FnExactIsEvenSaid : Prop := fnExactIsEvenRow.holds Try.pinned (OpenSpec.ofChange fnExactIsEvenSpec)

/-- ITS FALSE NEIGHBOUR: 'it returns false'. Refute it at one input. -/
def fnExactIsEvenWrong : ChangeSpec := { name := "fnExactIsEven", fn := fun _ => fun
  | [d] => { results := [.lit (.bool false)], args := [d] }
  | _ => none }
def FnExactIsEvenWrongFalsely : Prop := fnExactIsEvenRow.holds Try.pinned (OpenSpec.ofChange fnExactIsEvenWrong)

/-- 'laws.FnExactOrderOf': WHATEVER THE INPUT: true; the input reads as it did. -/
def fnExactOrderOfSpec : ChangeSpec := { name := "fnExactOrderOf", fn := fun _ => fun
  | [d] => { results := [.lit (.bool true)], args := [d] }
  | _ => none }
def fnExactOrderOfRow : OpenClaim := { program := "ytobidhabodkoaaa", sum := "0a4c2b97cb7e246d75564d798909e00dfbc5a3b8e7f031635c7925135aa13817", func := "loop.example/g00894/laws.FnExactOrderOf", spec := "fnExactOrderOf", apart := false }
def FnExactOrderOfSaid : Prop := fnExactOrderOfRow.holds Try.pinned (OpenSpec.ofChange fnExactOrderOfSpec)

/-- ITS FALSE NEIGHBOUR: 'it returns false'. Refute it at one input. -/
def fnExactOrderOfWrong : ChangeSpec := { name := "fnExactOrderOf", fn := fun _ => fun
  | [d] => { results := [.lit (.bool false)], args := [d] }
  | _ => none }
def FnExactOrderOfWrongFalsely : Prop := fnExactOrderOfRow.holds Try.pinned (OpenSpec.ofChange fnExactOrderOfWrong)

/-- 'laws.FnExactPlaceOfRow': WHATEVER THE INPUT: true; the input reads as it did. -/
def fnExactPlaceOfRowSpec : ChangeSpec := { name := "fnExactPlaceOfRow", fn := fun _ => fun
  | [d] => { results := [.lit (.bool true)], args := [d] }
  | _ => none }
def fnExactPlaceOfRowRow : OpenClaim := { program := "ytobidhabodkoaaa", sum := "0a4c2b97cb7e246d75564d798909e00dfbc5a3b8e7f031635c7925135aa13817", func := "loop.example/g00894/laws.FnExactPlaceOfRow", spec := "fnExactPlaceOfRow", apart := false }
def FnExactPlaceOfRowSaid : Prop := fnExactPlaceOfRowRow.holds Try.pinned (OpenSpec.ofChange fnExactPlaceOfRowSpec)

/-- ITS FALSE NEIGHBOUR: 'it returns false'. Refute it at one input. -/
def fnExactPlaceOfRowWrong : ChangeSpec := { name := "fnExactPlaceOfRow", fn := fun _ => fun
  | [d] => { results := [.lit (.bool false)], args := [d] }
  | _ => none }
def FnExactPlaceOfRowWrongFalsely : Prop := fnExactPlaceOfRowRow.holds Try.pinned (OpenSpec.ofChange fnExactPlaceOfRowWrong)

/-- 'laws.FnExactPowerOf': WHATEVER THE INPUT: true; the input reads as it did. -/
def fnExactPowerOfSpec : ChangeSpec := { name := "fnExactPowerOf", fn := fun _ => fun
  | [d1, d2] => { results := [.lit (.bool true)], args := [d1, d2] }
  | _ => none }
def fnExactPowerOfRow : OpenClaim := { program := "ytobidhabodkoaaa", sum := "0a4c2b97cb7e246d75564d798909e00dfbc5a3b8e7f031635c7925135aa13817", func := "loop.example/g00894/laws.FnExactPowerOf", spec := "fnExactPowerOf", apart := false }
def FnExactPowerOfSaid : Prop := fnExactPowerOfRow.holds Try.pinned (OpenSpec.ofChange fnExactPowerOfSpec)

/-- ITS FALSE NEIGHBOUR: 'it returns false'. Refute it at one input. -/
def fnExactPowerOfWrong : ChangeSpec := { name := "fnExactPowerOf", fn := fun _ => fun
  | [d1, d2] => { results := [.lit (.bool false)], args := [d1, d2] }
  | _ => none }
def FnExactPowerOfWrongFalsely : Prop := fnExactPowerOfRow.holds Try.pinned (OpenSpec.ofChange fnExactPowerOfWrong)

/-- 'laws.FnExactCyclesOf': WHATEVER THE INPUT: true; the input reads as it did. -/
def fnExactCyclesOfSpec : ChangeSpec := { name := "fnExactCyclesOf", fn := fun _ => fun
  | [d] => { results := [.lit (.bool true)], args := [d] }
  | _ => none }
def fnExactCyclesOfRow : OpenClaim := { program := "ytobidhabodkoaaa", sum := "0a4c2b97cb7e246d75564d798909e00dfbc5a3b8e7f031635c7925135aa13817", func := "loop.example/g00894/laws.FnExactCyclesOf", spec := "fnExactCyclesOf", apart := false }
def FnExactCyclesOfSaid : Prop := fnExactCyclesOfRow.holds Try.pinned (OpenSpec.ofChange fnExactCyclesOfSpec)

/-- ITS FALSE NEIGHBOUR: 'it returns false'. Refute it at one input. -/
def fnExactCyclesOfWrong : ChangeSpec := { name := "fnExactCyclesOf", fn := fun _ => fun
  | [d] => { results := [.lit (.bool false)], args := [d] }
  | _ => none }
def FnExactCyclesOfWrongFalsely : Prop := fnExactCyclesOfRow.holds Try.pinned (OpenSpec.ofChange fnExactCyclesOfWrong)

/-- 'laws.FnExactGoodRows': WHATEVER THE INPUT: true; the input reads as it did. -/
def fnExactGoodRowsSpec : ChangeSpec := { name := "fnExactGoodRows", fn := fun _ => fun
  | [d] => { results := [.lit (.bool true)], args := [d] }
  | _ => none }
def fnExactGoodRowsRow : OpenClaim := { program := "ytobidhabodkoaaa", sum := "0a4c2b97cb7e246d75564d798909e00dfbc5a3b8e7f031635c7925135aa13817", func := "loop.example/g00894/laws.FnExactGoodRows", spec := "fnExactGoodRows", apart := false }
def FnExactGoodRowsSaid : Prop := fnExactGoodRowsRow.holds Try.pinned (OpenSpec.ofChange fnExactGoodRowsSpec)

/-- ITS FALSE NEIGHBOUR: 'it returns false'. Refute it at one input. -/
def fnExactGoodRowsWrong : ChangeSpec := { name := "fnExactGoodRows", fn := fun _ => fun
  | [d] => { results := [.lit (.bool false)], args := [d] }
  | _ => none }
def FnExactGoodRowsWrongFalsely : Prop := fnExactGoodRowsRow.holds Try.pinned (OpenSpec.ofChange fnExactGoodRowsWrong)

/- THE SECOND FORM. 'bulk': how many values and letters a reading holds, each counted each time it is reached (what is shared counts as often as it is met; a slice's spare places count too). A statement '..UptoSaid' is the law's where the arguments, and the package variables that the reading takes, are together of bulk at most 1048576: NARROWER than '..Said'. Prove '..Said' where nothing that the law and all that it calls make is longer than what came in: it says more and counts as full. Else prove '..UptoSaid'. A law counts once. -/
mutual
def uptoBulk {H : Type} : DataW H → Nat
  | .lit (.string bytes) => bytes.length + 1
  | .lit _ => 1
  | .nil => 1
  | .ptr d => uptoBulk d + 1
  | .slice elems spare => uptoBulkAll elems + uptoBulkAll spare + 1
  | .agg parts => uptoBulkAll parts + 1
  | .iface _ d => uptoBulk d + 1
  | .map entries => uptoBulkEntries entries + 1
  | .held _ => 1
def uptoBulkAll {H : Type} : List (DataW H) → Nat
  | [] => 0
  | d :: r => uptoBulk d + uptoBulkAll r
def uptoBulkEntries {H : Type} : List (Lit × DataW H) → Nat
  | [] => 0
  | x :: r => uptoBulkEntry x + uptoBulkEntries r
def uptoBulkEntry {H : Type} : Lit × DataW H → Nat
  | (.string bytes, d) => bytes.length + uptoBulk d + 1
  | (_, d) => uptoBulk d + 1
 end
def uptoSmall : (H : Type) → List (DataW H) → Bool := fun _ ds => decide (uptoBulkAll ds ≤ 1048576)
def OpenSpec.upto (s : _root_.Go.ChangeSpec) : _root_.Go.OpenSpec := { _root_.Go.OpenSpec.ofChange s with cond := some uptoSmall }

/-- 'laws.FnExactConstants', WHERE WHAT IT READS IS OF BULK AT MOST 1048576: true; the input reads as it did. -/
def fnExactConstantsUptoRow : OpenClaim := { program := "ytobidhabodkoaaa", sum := "0a4c2b97cb7e246d75564d798909e00dfbc5a3b8e7f031635c7925135aa13817", func := "loop.example/g00894/laws.FnExactConstants", spec := "fnExactConstants", apart := false, narrowed := true }
def FnExactConstantsUptoSaid : Prop := fnExactConstantsUptoRow.holds Try.pinned (OpenSpec.upto fnExactConstantsSpec)

/-- 'laws.FnExactRoundsOf', WHERE WHAT IT READS IS OF BULK AT MOST 1048576: true; the input reads as it did. -/
def fnExactRoundsOfUptoRow : OpenClaim := { program := "ytobidhabodkoaaa", sum := "0a4c2b97cb7e246d75564d798909e00dfbc5a3b8e7f031635c7925135aa13817", func := "loop.example/g00894/laws.FnExactRoundsOf", spec := "fnExactRoundsOf", apart := false, narrowed := true }
def FnExactRoundsOfUptoSaid : Prop := fnExactRoundsOfUptoRow.holds Try.pinned (OpenSpec.upto fnExactRoundsOfSpec)

/-- 'laws.FnExactGoodRow', WHERE WHAT IT READS IS OF BULK AT MOST 1048576: true; the input reads as it did. -/
def fnExactGoodRowUptoRow : OpenClaim := { program := "ytobidhabodkoaaa", sum := "0a4c2b97cb7e246d75564d798909e00dfbc5a3b8e7f031635c7925135aa13817", func := "loop.example/g00894/laws.FnExactGoodRow", spec := "fnExactGoodRow", apart := false, narrowed := true }
def FnExactGoodRowUptoSaid : Prop := fnExactGoodRowUptoRow.holds Try.pinned (OpenSpec.upto fnExactGoodRowSpec)

/-- 'laws.FnExactRowOf', WHERE WHAT IT READS IS OF BULK AT MOST 1048576: true; the input reads as it did. -/
def fnExactRowOfUptoRow : OpenClaim := { program := "ytobidhabodkoaaa", sum := "0a4c2b97cb7e246d75564d798909e00dfbc5a3b8e7f031635c7925135aa13817", func := "loop.example/g00894/laws.FnExactRowOf", spec := "fnExactRowOf", apart := false, narrowed := true }
def FnExactRowOfUptoSaid : Prop := fnExactRowOfUptoRow.holds Try.pinned (OpenSpec.upto fnExactRowOfSpec)

/-- 'laws.FnExactTurnRow', WHERE WHAT IT READS IS OF BULK AT MOST 1048576: true; the input reads as it did. -/
def fnExactTurnRowUptoRow : OpenClaim := { program := "ytobidhabodkoaaa", sum := "0a4c2b97cb7e246d75564d798909e00dfbc5a3b8e7f031635c7925135aa13817", func := "loop.example/g00894/laws.FnExactTurnRow", spec := "fnExactTurnRow", apart := false, narrowed := true }
def FnExactTurnRowUptoSaid : Prop := fnExactTurnRowUptoRow.holds Try.pinned (OpenSpec.upto fnExactTurnRowSpec)

/-- 'laws.FnExactTimes', WHERE WHAT IT READS IS OF BULK AT MOST 1048576: true; the input reads as it did. -/
def fnExactTimesUptoRow : OpenClaim := { program := "ytobidhabodkoaaa", sum := "0a4c2b97cb7e246d75564d798909e00dfbc5a3b8e7f031635c7925135aa13817", func := "loop.example/g00894/laws.FnExactTimes", spec := "fnExactTimes", apart := false, narrowed := true }
def FnExactTimesUptoSaid : Prop := fnExactTimesUptoRow.holds Try.pinned (OpenSpec.upto fnExactTimesSpec)

/-- 'laws.FnExactIsEven', WHERE WHAT IT READS IS OF BULK AT MOST 1048576: true; the input reads as it did. -/
def fnExactIsEvenUptoRow : OpenClaim := { program := "ytobidhabodkoaaa", sum := "0a4c2b97cb7e246d75564d798909e00dfbc5a3b8e7f031635c7925135aa13817", func := "loop.example/g00894/laws.FnExactIsEven", spec := "fnExactIsEven", apart := false, narrowed := true }
def FnExactIsEvenUptoSaid : Prop := fnExactIsEvenUptoRow.holds Try.pinned (OpenSpec.upto fnExactIsEvenSpec)

/-- 'laws.FnExactOrderOf', WHERE WHAT IT READS IS OF BULK AT MOST 1048576: true; the input reads as it did. -/
def fnExactOrderOfUptoRow : OpenClaim := { program := "ytobidhabodkoaaa", sum := "0a4c2b97cb7e246d75564d798909e00dfbc5a3b8e7f031635c7925135aa13817", func := "loop.example/g00894/laws.FnExactOrderOf", spec := "fnExactOrderOf", apart := false, narrowed := true }
def FnExactOrderOfUptoSaid : Prop := fnExactOrderOfUptoRow.holds Try.pinned (OpenSpec.upto fnExactOrderOfSpec)

/-- 'laws.FnExactPlaceOfRow', WHERE WHAT IT READS IS OF BULK AT MOST 1048576: true; the input reads as it did. -/
def fnExactPlaceOfRowUptoRow : OpenClaim := { program := "ytobidhabodkoaaa", sum := "0a4c2b97cb7e246d75564d798909e00dfbc5a3b8e7f031635c7925135aa13817", func := "loop.example/g00894/laws.FnExactPlaceOfRow", spec := "fnExactPlaceOfRow", apart := false, narrowed := true }
def FnExactPlaceOfRowUptoSaid : Prop := fnExactPlaceOfRowUptoRow.holds Try.pinned (OpenSpec.upto fnExactPlaceOfRowSpec)

/-- 'laws.FnExactPowerOf', WHERE WHAT IT READS IS OF BULK AT MOST 1048576: true; the input reads as it did. -/
def fnExactPowerOfUptoRow : OpenClaim := { program := "ytobidhabodkoaaa", sum := "0a4c2b97cb7e246d75564d798909e00dfbc5a3b8e7f031635c7925135aa13817", func := "loop.example/g00894/laws.FnExactPowerOf", spec := "fnExactPowerOf", apart := false, narrowed := true }
def FnExactPowerOfUptoSaid : Prop := fnExactPowerOfUptoRow.holds Try.pinned (OpenSpec.upto fnExactPowerOfSpec)

/-- 'laws.FnExactCyclesOf', WHERE WHAT IT READS IS OF BULK AT MOST 1048576: true; the input reads as it did. -/
def fnExactCyclesOfUptoRow : OpenClaim := { program := "ytobidhabodkoaaa", sum := "0a4c2b97cb7e246d75564d798909e00dfbc5a3b8e7f031635c7925135aa13817", func := "loop.example/g00894/laws.FnExactCyclesOf", spec := "fnExactCyclesOf", apart := false, narrowed := true }
def FnExactCyclesOfUptoSaid : Prop := fnExactCyclesOfUptoRow.holds Try.pinned (OpenSpec.upto fnExactCyclesOfSpec)

/-- 'laws.FnExactGoodRows', WHERE WHAT IT READS IS OF BULK AT MOST 1048576: true; the input reads as it did. -/
def fnExactGoodRowsUptoRow : OpenClaim := { program := "ytobidhabodkoaaa", sum := "0a4c2b97cb7e246d75564d798909e00dfbc5a3b8e7f031635c7925135aa13817", func := "loop.example/g00894/laws.FnExactGoodRows", spec := "fnExactGoodRows", apart := false, narrowed := true }
def FnExactGoodRowsUptoSaid : Prop := fnExactGoodRowsUptoRow.holds Try.pinned (OpenSpec.upto fnExactGoodRowsSpec)

end Rows
end Go.Proofs.Ytobidhabodkoaaa
