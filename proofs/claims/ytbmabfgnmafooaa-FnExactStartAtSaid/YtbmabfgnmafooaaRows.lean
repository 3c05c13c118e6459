/-
  No cell of these rows narrows 'for every input' (looked for: loops, veiled, ifaces, maps, wideKeys, modest, calm, conditions, laid).
  DERIVED. THE GIVEN ROWS OF THIS SEAT. 11 by the template 'for every input the law returns true; each argument reads behind the call as it read before'; 0 by the template 'total and deterministic' (their statements: YtbmabfgnmafooaaTotals.lean).
  GIVEN WITH THE SEED: the statements are not yours to turn. If you find one false, say at which input.
  Laid BY PROGRAM, IN A SANDBOX (cutbox-rows.mjs): the forced cells as the released guide's own fill.sh prints them over the translation f10397bdf2215dbb… (all of the seat's roots in one cut). By AI agents, Wed Nov 11 2026. No macro, syntax, notation, axiom, sorry.
-/
import Derived.Test.YtbmabfgnmafooaaChecked
import GoSem.Claim
import GoSem.ClaimJoined
import GoSem.ClaimMapViews
import Derived.JoinedTies
import Derived.KernelRfl
namespace Go.Proofs.Ytbmabfgnmafooaa
/- THE CELL 'sum', in the pinned program and in every row, IS THE sha256 OF THE DUMP (.gsa) THAT YtbmabfgnmafooaaProg.lean LOADS. Nothing in Lean hashes anything: it is a label: what it is worth is what the hold of that sum in a sandbox is worth. -/
noncomputable def Try.pinned : Pinned := { name := "ytbmabfgnmafooaa", sum := "f10397bdf2215dbbe9c7ee8d69e9500063be4cd5d145120d15306160f5d6dd52", checked := Try.checked }
namespace Rows
def none {H : Type} : Left H := { results := [], args := [] }

/-- 'laws.FnExactSameMethod': WHATEVER THE INPUT: true; the input reads as it did. -/
def fnExactSameMethodSpec : ChangeSpec := { name := "fnExactSameMethod", fn := fun _ => fun
  | [d1, d2] => { results := [.lit (.bool true)], args := [d1, d2] }
  | _ => none }
def fnExactSameMethodRow : OpenClaim := { program := "ytbmabfgnmafooaa", sum := "f10397bdf2215dbbe9c7ee8d69e9500063be4cd5d145120d15306160f5d6dd52", func := "loop.example/g00894/laws.FnExactSameMethod", spec := "fnExactSameMethod", apart := false }
def FnExactSameMethodSaid : Prop := fnExactSameMethodRow.holds Try.pinned (OpenSpec.ofChange fnExactSameMethodSpec)

/-- ITS FALSE NEIGHBOUR: 'it returns false'. Refute it at one input. -/
def fnExactSameMethodWrong : ChangeSpec := { name := "fnExactSameMethod", fn := fun _ => fun
  | [d1, d2] => { results := [.lit (.bool false)], args := [d1, d2] }
  | _ => none }
def FnExactSameMethodWrongFalsely : Prop := fnExactSameMethodRow.holds Try.pinned (OpenSpec.ofChange fnExactSameMethodWrong)

/-- 'laws.FnExactTurnMethod': WHATEVER THE INPUT: true; the input reads as it did. -/
def fnExactTurnMethodSpec : ChangeSpec := { name := "fnExactTurnMethod", fn := fun _ => fun
  | [d] => { results := [.lit (.bool true)], args := [d] }
  | _ => none }
def fnExactTurnMethodRow : OpenClaim := { program := "ytbmabfgnmafooaa", sum := "f10397bdf2215dbbe9c7ee8d69e9500063be4cd5d145120d15306160f5d6dd52", func := "loop.example/g00894/laws.FnExactTurnMethod", spec := "fnExactTurnMethod", apart := false }
def FnExactTurnMethodSaid : Prop := fnExactTurnMethodRow.holds Try.pinned (OpenSpec.ofChange fnExactTurnMethodSpec)

/-- ITS FALSE NEIGHBOUR: 'it returns false'. Refute it at one input. -/
def fnExactTurnMethodWrong : ChangeSpec := { name := "fnExactTurnMethod", fn := fun _ => fun
  | [d] => { results := [.lit (.bool false)], args := [d] }
  | _ => none }
def FnExactTurnMethodWrongFalsely : Prop := fnExactTurnMethodRow.holds Try.pinned (OpenSpec.ofChange fnExactTurnMethodWrong)

/-- 'laws.FnExactStartAt': WHATEVER THE INPUT: true; the input reads as it did. -/
def fnExactStartAtSpec : ChangeSpec := { name := "fnExactStartAt", fn := fun _ => fun
  | [d1, d2] => { results := [.lit (.bool true)], args := [d1, d2] }
  | _ => none }
def fnExactStartAtRow : OpenClaim := { program := "ytbmabfgnmafooaa", sum := "f10397bdf2215dbbe9c7ee8d69e9500063be4cd5d145120d15306160f5d6dd52", func := "loop.example/g00894/laws.FnExactStartAt", spec := "fnExactStartAt", apart := false }
def FnExactStartAtSaid : Prop := fnExactStartAtRow.holds Try.pinned (OpenSpec.ofChange fnExactStartAtSpec)

/-- ITS FALSE NEIGHBOUR: 'it returns false'. Refute it at one input. -/
def fnExactStartAtWrong : ChangeSpec := { name := "fnExactStartAt", fn := fun _ => fun
  | [d1, d2] => { results := [.lit (.bool false)], args := [d1, d2] }
  | _ => none }
def FnExactStartAtWrongFalsely : Prop := fnExactStartAtRow.holds Try.pinned (OpenSpec.ofChange fnExactStartAtWrong)

/-- 'laws.FnExactWorkText': WHATEVER THE INPUT: true; the input reads as it did. -/
def fnExactWorkTextSpec : ChangeSpec := { name := "fnExactWorkText", fn := fun _ => fun
  | [d1, d2] => { results := [.lit (.bool true)], args := [d1, d2] }
  | _ => none }
def fnExactWorkTextRow : OpenClaim := { program := "ytbmabfgnmafooaa", sum := "f10397bdf2215dbbe9c7ee8d69e9500063be4cd5d145120d15306160f5d6dd52", func := "loop.example/g00894/laws.FnExactWorkText", spec := "fnExactWorkText", apart := false }
def FnExactWorkTextSaid : Prop := fnExactWorkTextRow.holds Try.pinned (OpenSpec.ofChange fnExactWorkTextSpec)

/-- ITS FALSE NEIGHBOUR: 'it returns false'. Refute it at one input. -/
def fnExactWorkTextWrong : ChangeSpec := { name := "fnExactWorkText", fn := fun _ => fun
  | [d1, d2] => { results := [.lit (.bool false)], args := [d1, d2] }
  | _ => none }
def FnExactWorkTextWrongFalsely : Prop := fnExactWorkTextRow.holds Try.pinned (OpenSpec.ofChange fnExactWorkTextWrong)

/-- 'laws.FnExactCourseRows': WHATEVER THE INPUT: true; the input reads as it did. -/
def fnExactCourseRowsSpec : ChangeSpec := { name := "fnExactCourseRows", fn := fun _ => fun
  | [d] => { results := [.lit (.bool true)], args := [d] }
  | _ => none }
def fnExactCourseRowsRow : OpenClaim := { program := "ytbmabfgnmafooaa", sum := "f10397bdf2215dbbe9c7ee8d69e9500063be4cd5d145120d15306160f5d6dd52", func := "loop.example/g00894/laws.FnExactCourseRows", spec := "fnExactCourseRows", apart := false }
def FnExactCourseRowsSaid : Prop := fnExactCourseRowsRow.holds Try.pinned (OpenSpec.ofChange fnExactCourseRowsSpec)

/-- ITS FALSE NEIGHBOUR: 'it returns false'. Refute it at one input. -/
def fnExactCourseRowsWrong : ChangeSpec := { name := "fnExactCourseRows", fn := fun _ => fun
  | [d] => { results := [.lit (.bool false)], args := [d] }
  | _ => none }
def FnExactCourseRowsWrongFalsely : Prop := fnExactCourseRowsRow.holds Try.pinned (OpenSpec.ofChange fnExactCourseRowsWrong)

/-- 'laws.FnExactStillBells': WHATEVER THE INPUT: true; the input reads as it did. -/
def fnExactStillBellsSpec : ChangeSpec := { name := "fnExactStillBells", fn := fun _ => fun
  | [d] => { results := [.lit (.bool true)], args := [d] }
  | _ => none }
def fnExactStillBellsRow : OpenClaim := { program := "ytbmabfgnmafooaa", sum := "f10397bdf2215dbbe9c7ee8d69e9500063be4cd5d145120d15306160f5d6dd52", func := "loop.example/g00894/laws.FnExactStillBells", spec := "fnExactStillBells", unfollowed := true, recurses := true, apart := false }
def FnExactStillBellsSaid : Prop := fnExactStillBellsRow.holds Try.pinned (OpenSpec.ofChange fnExactStillBellsSpec)

/-- ITS FALSE NEIGHBOUR: 'it returns false'. Refute it at one input. -/
def fnExactStillBellsWrong : ChangeSpec := { name := "fnExactStillBells", fn := fun _ => fun
  | [d] => { results := [.lit (.bool false)], args := [d] }
  | _ => none }
def FnExactStillBellsWrongFalsely : Prop := fnExactStillBellsRow.holds Try.pinned (OpenSpec.ofChange fnExactStillBellsWrong)

/-- 'laws.FnExactPathOf': WHATEVER THE INPUT: true; the input reads as it did. -/
def fnExactPathOfSpec : ChangeSpec := { name := "fnExactPathOf", fn := fun _ => fun
  | [d1, d2] => { results := [.lit (.bool true)], args := [d1, d2] }
  | _ => none }
def fnExactPathOfRow : OpenClaim := { program := "ytbmabfgnmafooaa", sum := "f10397bdf2215dbbe9c7ee8d69e9500063be4cd5d145120d15306160f5d6dd52", func := "loop.example/g00894/laws.FnExactPathOf", spec := "fnExactPathOf", apart := false }
def FnExactPathOfSaid : Prop := fnExactPathOfRow.holds Try.pinned (OpenSpec.ofChange fnExactPathOfSpec)

/-- ITS FALSE NEIGHBOUR: 'it returns false'. Refute it at one input. -/
def fnExactPathOfWrong : ChangeSpec := { name := "fnExactPathOf", fn := fun _ => fun
  | [d1, d2] => { results := [.lit (.bool false)], args := [d1, d2] }
  | _ => none }
def FnExactPathOfWrongFalsely : Prop := fnExactPathOfRow.holds Try.pinned (OpenSpec.ofChange fnExactPathOfWrong)

/-- 'laws.FnExactHuntBells': WHATEVER THE INPUT: true; the input reads as it did. -/
def fnExactHuntBellsSpec : ChangeSpec := { name := "fnExactHuntBells", fn := fun _ => fun
  | [d] => { results := [.lit (.bool true)], args := [d] }
  | _ => none }
def fnExactHuntBellsRow : OpenClaim := { program := "ytbmabfgnmafooaa", sum := "f10397bdf2215dbbe9c7ee8d69e9500063be4cd5d145120d15306160f5d6dd52", func := "loop.example/g00894/laws.FnExactHuntBells", spec := "fnExactHuntBells", unfollowed := true, recurses := true, apart := false }
def FnExactHuntBellsSaid : Prop := fnExactHuntBellsRow.holds Try.pinned (OpenSpec.ofChange fnExactHuntBellsSpec)

/-- ITS FALSE NEIGHBOUR: 'it returns false'. Refute it at one input. -/
def fnExactHuntBellsWrong : ChangeSpec := { name := "fnExactHuntBells", fn := fun _ => fun
  | [d] => { results := [.lit (.bool false)], args := [d] }
  | _ => none }
def FnExactHuntBellsWrongFalsely : Prop := fnExactHuntBellsRow.holds Try.pinned (OpenSpec.ofChange fnExactHuntBellsWrong)

/-- 'laws.FnExactPlaceBells': WHATEVER THE INPUT: true; the input reads as it did. -/
def fnExactPlaceBellsSpec : ChangeSpec := { name := "fnExactPlaceBells", fn := fun _ => fun
  | [d1, d2] => { results := [.lit (.bool true)], args := [d1, d2] }
  | _ => none }
def fnExactPlaceBellsRow : OpenClaim := { program := "ytbmabfgnmafooaa", sum := "f10397bdf2215dbbe9c7ee8d69e9500063be4cd5d145120d15306160f5d6dd52", func := "loop.example/g00894/laws.FnExactPlaceBells", spec := "fnExactPlaceBells", apart := false }
def FnExactPlaceBellsSaid : Prop := fnExactPlaceBellsRow.holds Try.pinned (OpenSpec.ofChange fnExactPlaceBellsSpec)

/-- ITS FALSE NEIGHBOUR: 'it returns false'. Refute it at one input. -/
def fnExactPlaceBellsWrong : ChangeSpec := { name := "fnExactPlaceBells", fn := fun _ => fun
  | [d1, d2] => { results := [.lit (.bool false)], args := [d1, d2] }
  | _ => none }
def FnExactPlaceBellsWrongFalsely : Prop := fnExactPlaceBellsRow.holds Try.pinned (OpenSpec.ofChange fnExactPlaceBellsWrong)

/-- 'laws.FnExactPathsOf': WHATEVER THE INPUT: true; the input reads as it did. -/
def fnExactPathsOfSpec : ChangeSpec := { name := "fnExactPathsOf", fn := fun _ => fun
  | [d] => { results := [.lit (.bool true)], args := [d] }
  | _ => none }
def fnExactPathsOfRow : OpenClaim := { program := "ytbmabfgnmafooaa", sum := "f10397bdf2215dbbe9c7ee8d69e9500063be4cd5d145120d15306160f5d6dd52", func := "loop.example/g00894/laws.FnExactPathsOf", spec := "fnExactPathsOf", apart := false }
def FnExactPathsOfSaid : Prop := fnExactPathsOfRow.holds Try.pinned (OpenSpec.ofChange fnExactPathsOfSpec)

/-- ITS FALSE NEIGHBOUR: 'it returns false'. Refute it at one input. -/
def fnExactPathsOfWrong : ChangeSpec := { name := "fnExactPathsOf", fn := fun _ => fun
  | [d] => { results := [.lit (.bool false)], args := [d] }
  | _ => none }
def FnExactPathsOfWrongFalsely : Prop := fnExactPathsOfRow.holds Try.pinned (OpenSpec.ofChange fnExactPathsOfWrong)

/-- 'laws.FnExactCoursePath': WHATEVER THE INPUT: true; the input reads as it did. -/
def fnExactCoursePathSpec : ChangeSpec := { name := "fnExactCoursePath", fn := fun _ => fun
  | [d1, d2] => { results := [.lit (.bool true)], args := [d1, d2] }
  | _ => none }
def fnExactCoursePathRow : OpenClaim := { program := "ytbmabfgnmafooaa", sum := "f10397bdf2215dbbe9c7ee8d69e9500063be4cd5d145120d15306160f5d6dd52", func := "loop.example/g00894/laws.FnExactCoursePath", spec := "fnExactCoursePath", apart := false }
def FnExactCoursePathSaid : Prop := fnExactCoursePathRow.holds Try.pinned (OpenSpec.ofChange fnExactCoursePathSpec)

/-- ITS FALSE NEIGHBOUR: 'it returns false'. Refute it at one input. -/
def fnExactCoursePathWrong : ChangeSpec := { name := "fnExactCoursePath", fn := fun _ => fun
  | [d1, d2] => { results := [.lit (.bool false)], args := [d1, d2] }
  | _ => none }
def FnExactCoursePathWrongFalsely : Prop := fnExactCoursePathRow.holds Try.pinned (OpenSpec.ofChange fnExactCoursePathWrong)

/- THE SECOND FORM. 'bulk': how many values and letters a reading holds, each counted each time it is reached (what is shared counts as often as it is met; a slice's spare places count too). A statement '..UptoSaid' is the law's where the arguments, and the package variables that the reading takes, are together of bulk at most 1048576: NARROWER than '..Said'. Prove '..Said' where nothing that the law and all that it calls make is longer than what came in: it says more and counts as full. Else prove '..UptoSaid'. A law counts once. -/
mutual
def uptoBulk {H : Type} : DataW H → Nat
  | .lit (.string bytes) => bytes.length + 1
  | .lit _ => 1
  | .nil => 1
  | .ptr d => uptoBulk d + 1
  | .slice elems spare => uptoBulkAll elems + uptoBulkAll spare + 1
  | .agg parts => uptoBulkAll parts + 1
  | .iface _ d => uptoBulk d + 1
  | .map entries => uptoBulkEntries entries + 1
  | .held _ => 1
def uptoBulkAll {H : Type} : List (DataW H) → Nat
  | [] => 0
  | d :: r => uptoBulk d + uptoBulkAll r
def uptoBulkEntries {H : Type} : List (Lit × DataW H) → Nat
  | [] => 0
  | x :: r => uptoBulkEntry x + uptoBulkEntries r
def uptoBulkEntry {H : Type} : Lit × DataW H → Nat
  | (.string bytes, d) => bytes.length + uptoBulk d + 1
  | (_, d) => uptoBulk d + 1
 end
def uptoSmall : (H : Type) → List (DataW H) → Bool := fun _ ds => decide (uptoBulkAll ds ≤ 1048576)
def OpenSpec.upto (s : _root_.Go.ChangeSpec) : _root_.Go.OpenSpec := { _root_.Go.OpenSpec.ofChange s with cond := some uptoSmall }

/-- 'laws.FnExactSameMethod', WHERE WHAT IT READS IS OF BULK AT MOST 1048576: true; the input reads as it did. -/
def fnExactSameMethodUptoRow : OpenClaim := { program := "ytbmabfgnmafooaa", sum := "f10397bdf2215dbbe9c7ee8d69e9500063be4cd5d145120d15306160f5d6dd52", func := "loop.example/g00894/laws.FnExactSameMethod", spec := "fnExactSameMethod", apart := false, narrowed := true }
def FnExactSameMethodUptoSaid : Prop := fnExactSameMethodUptoRow.holds Try.pinned (OpenSpec.upto fnExactSameMethodSpec)

/-- 'laws.FnExactTurnMethod', WHERE WHAT IT READS IS OF BULK AT MOST 1048576: true; the input reads as it did. -/
def fnExactTurnMethodUptoRow : OpenClaim := { program := "ytbmabfgnmafooaa", sum := "f10397bdf2215dbbe9c7ee8d69e9500063be4cd5d145120d15306160f5d6dd52", func := "loop.example/g00894/laws.FnExactTurnMethod", spec := "fnExactTurnMethod", apart := false, narrowed := true }
def FnExactTurnMethodUptoSaid : Prop := fnExactTurnMethodUptoRow.holds Try.pinned (OpenSpec.upto fnExactTurnMethodSpec)

/-- 'laws.FnExactStartAt', WHERE WHAT IT READS IS OF BULK AT MOST 1048576: true; the input reads as it did. -/
def fnExactStartAtUptoRow : OpenClaim := { program := "ytbmabfgnmafooaa", sum := "f10397bdf2215dbbe9c7ee8d69e9500063be4cd5d145120d15306160f5d6dd52", func := "loop.example/g00894/laws.FnExactStartAt", spec := "fnExactStartAt", apart := false, narrowed := true }
def FnExactStartAtUptoSaid : Prop := fnExactStartAtUptoRow.holds Try.pinned (OpenSpec.upto fnExactStartAtSpec)

/-- 'laws.FnExactWorkText', WHERE WHAT IT READS IS OF BULK AT MOST 1048576: true; the input reads as it did. -/
def fnExactWorkTextUptoRow : OpenClaim := { program := "ytbmabfgnmafooaa", sum := "f10397bdf2215dbbe9c7ee8d69e9500063be4cd5d145120d15306160f5d6dd52", func := "loop.example/g00894/laws.FnExactWorkText", spec := "fnExactWorkText", apart := false, narrowed := true }
def FnExactWorkTextUptoSaid : Prop := fnExactWorkTextUptoRow.holds Try.pinned (OpenSpec.upto fnExactWorkTextSpec)

/-- 'laws.FnExactCourseRows', WHERE WHAT IT READS IS OF BULK AT MOST 1048576: true; the input reads as it did. -/
def fnExactCourseRowsUptoRow : OpenClaim := { program := "ytbmabfgnmafooaa", sum := "f10397bdf2215dbbe9c7ee8d69e9500063be4cd5d145120d15306160f5d6dd52", func := "loop.example/g00894/laws.FnExactCourseRows", spec := "fnExactCourseRows", apart := false, narrowed := true }
def FnExactCourseRowsUptoSaid : Prop := fnExactCourseRowsUptoRow.holds Try.pinned (OpenSpec.upto fnExactCourseRowsSpec)

/-- 'laws.FnExactStillBells', WHERE WHAT IT READS IS OF BULK AT MOST 1048576: true; the input reads as it did. -/
def fnExactStillBellsUptoRow : OpenClaim := { program := "ytbmabfgnmafooaa", sum := "f10397bdf2215dbbe9c7ee8d69e9500063be4cd5d145120d15306160f5d6dd52", func := "loop.example/g00894/laws.FnExactStillBells", spec := "fnExactStillBells", unfollowed := true, recurses := true, apart := false, narrowed := true }
def FnExactStillBellsUptoSaid : Prop := fnExactStillBellsUptoRow.holds Try.pinned (OpenSpec.upto fnExactStillBellsSpec)

/-- 'laws.FnExactPathOf', WHERE WHAT IT READS IS OF BULK AT MOST 1048576: true; the input reads as it did. -/
def fnExactPathOfUptoRow : OpenClaim := { program := "ytbmabfgnmafooaa", sum := "f10397bdf2215dbbe9c7ee8d69e9500063be4cd5d145120d15306160f5d6dd52", func := "loop.example/g00894/laws.FnExactPathOf", spec := "fnExactPathOf", apart := false, narrowed := true }
def FnExactPathOfUptoSaid : Prop := fnExactPathOfUptoRow.holds Try.pinned (OpenSpec.upto fnExactPathOfSpec)

/-- 'laws.FnExactHuntBells', WHERE WHAT IT READS IS OF BULK AT MOST 1048576: true; the input reads as it did. -/
def fnExactHuntBellsUptoRow : OpenClaim := { program := "ytbmabfgnmafooaa", sum := "f10397bdf2215dbbe9c7ee8d69e9500063be4cd5d145120d15306160f5d6dd52", func := "loop.example/g00894/laws.FnExactHuntBells", spec := "fnExactHuntBells", unfollowed := true, recurses := true, apart := false, narrowed := true }
def FnExactHuntBellsUptoSaid : Prop := fnExactHuntBellsUptoRow.holds Try.pinned (OpenSpec.upto fnExactHuntBellsSpec)

/-- 'laws.FnExactPlaceBells', WHERE WHAT IT READS IS OF BULK AT MOST 1048576: true; the input reads as it did. -/
def fnExactPlaceBellsUptoRow : OpenClaim := { program := "ytbmabfgnmafooaa", sum := "f10397bdf2215dbbe9c7ee8d69e9500063be4cd5d145120d15306160f5d6dd52", func := "loop.example/g00894/laws.FnExactPlaceBells", spec := "fnExactPlaceBells", apart := false, narrowed := true }
def FnExactPlaceBellsUptoSaid : Prop := fnExactPlaceBellsUptoRow.holds Try.pinned (OpenSpec.upto fnExactPlaceBellsSpec)

/-- 'laws.FnExactPathsOf', WHERE WHAT IT READS IS OF BULK AT MOST 1048576: true; the input reads as it did. -/
def fnExactPathsOfUptoRow : OpenClaim := { program := "ytbmabfgnmafooaa", sum := "f10397bdf2215dbbe9c7ee8d69e9500063be4cd5d145120d15306160f5d6dd52", func := "loop.example/g00894/laws.FnExactPathsOf", spec := "fnExactPathsOf", apart := false, narrowed := true }
def FnExactPathsOfUptoSaid : Prop := fnExactPathsOfUptoRow.holds Try.pinned (OpenSpec.upto fnExactPathsOfSpec)

/-- 'laws.FnExactCoursePath', WHERE WHAT IT READS IS OF BULK AT MOST 1048576: true; the input reads as it did. -/
def fnExactCoursePathUptoRow : OpenClaim := { program := "ytbmabfgnmafooaa", sum := "f10397bdf2215dbbe9c7ee8d69e9500063be4cd5d145120d15306160f5d6dd52", func := "loop.example/g00894/laws.FnExactCoursePath", spec := "fnExactCoursePath", apart := false, narrowed := true }
def FnExactCoursePathUptoSaid : Prop := fnExactCoursePathUptoRow.holds Try.pinned (OpenSpec.upto fnExactCoursePathSpec)

end Rows
end Go.Proofs.Ytbmabfgnmafooaa
