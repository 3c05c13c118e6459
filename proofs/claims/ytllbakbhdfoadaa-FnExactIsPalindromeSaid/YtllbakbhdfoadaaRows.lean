/-
  No cell of these rows narrows 'for every input' (looked for: loops, veiled, ifaces, maps, wideKeys, modest, calm, conditions, laid).
  DERIVED. THE GIVEN ROWS OF THIS SEAT. 12 by the template 'for every input the law returns true; each argument reads behind the call as it read before'; 0 by the template 'total and deterministic' (their statements: YtllbakbhdfoadaaTotals.lean).
  GIVEN WITH THE SEED: the statements are not yours to turn. If you find one false, say at which input.
  Laid BY PROGRAM, IN A SANDBOX (cutbox-rows.mjs): the forced cells as the released guide's own fill.sh prints them over the translation f1e616e12964d8a4… (all of the seat's roots in one cut). By AI agents, Wed Nov 11 2026. No macro, syntax, notation, axiom, sorry.
-/
import Derived.Test.YtllbakbhdfoadaaChecked
import GoSem.Claim
import GoSem.ClaimJoined
import GoSem.ClaimMapViews
import Derived.JoinedTies
import Derived.KernelRfl
namespace Go.Proofs.Ytllbakbhdfoadaa
/- THE CELL 'sum', in the pinned program and in every row, IS THE sha256 OF THE DUMP (.gsa) THAT YtllbakbhdfoadaaProg.lean LOADS. Nothing in Lean hashes anything: it is a label: what it is worth is what the hold of that sum in a sandbox is worth. -/
noncomputable def Try.pinned : Pinned := { name := "ytllbakbhdfoadaa", sum := "f1e616e12964d8a470b3b9a7793b0fe9373e6ea6cc7ecc2adac576dd1fb88b92", checked := Try.checked }
namespace Rows
def none {H : Type} : Left H := { results := [], args := [] }

/-- 'laws.FnExactSameMethod': WHATEVER THE INPUT: true; the input reads as it did. -/
def fnExactSameMethodSpec : ChangeSpec := { name := "fnExactSameMethod", fn := fun _ => fun
  | [d1, d2] => { results := [.lit (.bool true)], args := [d1, d2] }
  | _ => none }
def fnExactSameMethodRow : OpenClaim := { program := "ytllbakbhdfoadaa", sum := "f1e616e12964d8a470b3b9a7793b0fe9373e6ea6cc7ecc2adac576dd1fb88b92", func := "loop.example/g00894/laws.FnExactSameMethod", spec := "fnExactSameMethod", apart := false }
def FnExactSameMethodSaid : Prop := fnExactSameMethodRow.holds Try.pinned (OpenSpec.ofChange fnExactSameMethodSpec)

/-- ITS FALSE NEIGHBOUR: 'it returns false'. Refute it at one input. -/
def fnExactSameMethodWrong : ChangeSpec := { name := "fnExactSameMethod", fn := fun _ => fun
  | [d1, d2] => { results := [.lit (.bool false)], args := [d1, d2] }
  | _ => none }
def FnExactSameMethodWrongFalsely : Prop := fnExactSameMethodRow.holds Try.pinned (OpenSpec.ofChange fnExactSameMethodWrong)

/-- 'laws.FnExactIsPalindrome': WHATEVER THE INPUT: true; the input reads as it did. -/
def fnExactIsPalindromeSpec : ChangeSpec := { name := "fnExactIsPalindrome", fn := fun _ => fun
  | [d] => { results := [.lit (.bool true)], args := [d] }
  | _ => none }
def fnExactIsPalindromeRow : OpenClaim := { program := "ytllbakbhdfoadaa", sum := "f1e616e12964d8a470b3b9a7793b0fe9373e6ea6cc7ecc2adac576dd1fb88b92", func := "loop.example/g00894/laws.FnExactIsPalindrome", spec := "fnExactIsPalindrome", apart := false }
def FnExactIsPalindromeSaid : Prop := fnExactIsPalindromeRow.holds Try.pinned (OpenSpec.ofChange fnExactIsPalindromeSpec)

/-- ITS FALSE NEIGHBOUR: 'it returns false'. Refute it at one input. -/
def fnExactIsPalindromeWrong : ChangeSpec := { name := "fnExactIsPalindrome", fn := fun _ => fun
  | [d] => { results := [.lit (.bool false)], args := [d] }
  | _ => none }
def FnExactIsPalindromeWrongFalsely : Prop := fnExactIsPalindromeRow.holds Try.pinned (OpenSpec.ofChange fnExactIsPalindromeWrong)

/-- 'laws.FnExactTurnMethod': WHATEVER THE INPUT: true; the input reads as it did. -/
def fnExactTurnMethodSpec : ChangeSpec := { name := "fnExactTurnMethod", fn := fun _ => fun
  | [d] => { results := [.lit (.bool true)], args := [d] }
  | _ => none }
def fnExactTurnMethodRow : OpenClaim := { program := "ytllbakbhdfoadaa", sum := "f1e616e12964d8a470b3b9a7793b0fe9373e6ea6cc7ecc2adac576dd1fb88b92", func := "loop.example/g00894/laws.FnExactTurnMethod", spec := "fnExactTurnMethod", apart := false }
def FnExactTurnMethodSaid : Prop := fnExactTurnMethodRow.holds Try.pinned (OpenSpec.ofChange fnExactTurnMethodSpec)

/-- ITS FALSE NEIGHBOUR: 'it returns false'. Refute it at one input. -/
def fnExactTurnMethodWrong : ChangeSpec := { name := "fnExactTurnMethod", fn := fun _ => fun
  | [d] => { results := [.lit (.bool false)], args := [d] }
  | _ => none }
def FnExactTurnMethodWrongFalsely : Prop := fnExactTurnMethodRow.holds Try.pinned (OpenSpec.ofChange fnExactTurnMethodWrong)

/-- 'laws.FnExactStartAt': WHATEVER THE INPUT: true; the input reads as it did. -/
def fnExactStartAtSpec : ChangeSpec := { name := "fnExactStartAt", fn := fun _ => fun
  | [d1, d2] => { results := [.lit (.bool true)], args := [d1, d2] }
  | _ => none }
def fnExactStartAtRow : OpenClaim := { program := "ytllbakbhdfoadaa", sum := "f1e616e12964d8a470b3b9a7793b0fe9373e6ea6cc7ecc2adac576dd1fb88b92", func := "loop.example/g00894/laws.FnExactStartAt", spec := "fnExactStartAt", apart := false }
def FnExactStartAtSaid : Prop := fnExactStartAtRow.holds Try.pinned (OpenSpec.ofChange fnExactStartAtSpec)

/-- ITS FALSE NEIGHBOUR: 'it returns false'. Refute it at one input. -/
def fnExactStartAtWrong : ChangeSpec := { name := "fnExactStartAt", fn := fun _ => fun
  | [d1, d2] => { results := [.lit (.bool false)], args := [d1, d2] }
  | _ => none }
def FnExactStartAtWrongFalsely : Prop := fnExactStartAtRow.holds Try.pinned (OpenSpec.ofChange fnExactStartAtWrong)

/-- 'laws.FnExactPointsIn': WHATEVER THE INPUT: true; the input reads as it did. -/
def fnExactPointsInSpec : ChangeSpec := { name := "fnExactPointsIn", fn := fun _ => fun
  | [d] => { results := [.lit (.bool true)], args := [d] }
  | _ => none }
def fnExactPointsInRow : OpenClaim := { program := "ytllbakbhdfoadaa", sum := "f1e616e12964d8a470b3b9a7793b0fe9373e6ea6cc7ecc2adac576dd1fb88b92", func := "loop.example/g00894/laws.FnExactPointsIn", spec := "fnExactPointsIn", apart := false }
def FnExactPointsInSaid : Prop := fnExactPointsInRow.holds Try.pinned (OpenSpec.ofChange fnExactPointsInSpec)

/-- ITS FALSE NEIGHBOUR: 'it returns false'. Refute it at one input. -/
def fnExactPointsInWrong : ChangeSpec := { name := "fnExactPointsIn", fn := fun _ => fun
  | [d] => { results := [.lit (.bool false)], args := [d] }
  | _ => none }
def FnExactPointsInWrongFalsely : Prop := fnExactPointsInRow.holds Try.pinned (OpenSpec.ofChange fnExactPointsInWrong)

/-- 'laws.FnExactDodgesIn': WHATEVER THE INPUT: true; the input reads as it did. -/
def fnExactDodgesInSpec : ChangeSpec := { name := "fnExactDodgesIn", fn := fun _ => fun
  | [d] => { results := [.lit (.bool true)], args := [d] }
  | _ => none }
def fnExactDodgesInRow : OpenClaim := { program := "ytllbakbhdfoadaa", sum := "f1e616e12964d8a470b3b9a7793b0fe9373e6ea6cc7ecc2adac576dd1fb88b92", func := "loop.example/g00894/laws.FnExactDodgesIn", spec := "fnExactDodgesIn", apart := false }
def FnExactDodgesInSaid : Prop := fnExactDodgesInRow.holds Try.pinned (OpenSpec.ofChange fnExactDodgesInSpec)

/-- ITS FALSE NEIGHBOUR: 'it returns false'. Refute it at one input. -/
def fnExactDodgesInWrong : ChangeSpec := { name := "fnExactDodgesIn", fn := fun _ => fun
  | [d] => { results := [.lit (.bool false)], args := [d] }
  | _ => none }
def FnExactDodgesInWrongFalsely : Prop := fnExactDodgesInRow.holds Try.pinned (OpenSpec.ofChange fnExactDodgesInWrong)

/-- 'laws.FnExactRowsOf': WHATEVER THE INPUT: true; the input reads as it did. -/
def fnExactRowsOfSpec : ChangeSpec := { name := "fnExactRowsOf", fn := fun _ => fun
  | [d] => { results := [.lit (.bool true)], args := [d] }
  | _ => none }
def fnExactRowsOfRow : OpenClaim := { program := "ytllbakbhdfoadaa", sum := "f1e616e12964d8a470b3b9a7793b0fe9373e6ea6cc7ecc2adac576dd1fb88b92", func := "loop.example/g00894/laws.FnExactRowsOf", spec := "fnExactRowsOf", apart := false }
def FnExactRowsOfSaid : Prop := fnExactRowsOfRow.holds Try.pinned (OpenSpec.ofChange fnExactRowsOfSpec)

/-- ITS FALSE NEIGHBOUR: 'it returns false'. Refute it at one input. -/
def fnExactRowsOfWrong : ChangeSpec := { name := "fnExactRowsOf", fn := fun _ => fun
  | [d] => { results := [.lit (.bool false)], args := [d] }
  | _ => none }
def FnExactRowsOfWrongFalsely : Prop := fnExactRowsOfRow.holds Try.pinned (OpenSpec.ofChange fnExactRowsOfWrong)

/-- 'laws.FnExactLeftTimes': WHATEVER THE INPUT: true; the input reads as it did. -/
def fnExactLeftTimesSpec : ChangeSpec := { name := "fnExactLeftTimes", fn := fun _ => fun
  | [d1, d2] => { results := [.lit (.bool true)], args := [d1, d2] }
  | _ => none }
def fnExactLeftTimesRow : OpenClaim := { program := "ytllbakbhdfoadaa", sum := "f1e616e12964d8a470b3b9a7793b0fe9373e6ea6cc7ecc2adac576dd1fb88b92", func := "loop.example/g00894/laws.FnExactLeftTimes", spec := "fnExactLeftTimes", apart := false }
def FnExactLeftTimesSaid : Prop := fnExactLeftTimesRow.holds Try.pinned (OpenSpec.ofChange fnExactLeftTimesSpec)

/-- ITS FALSE NEIGHBOUR: 'it returns false'. Refute it at one input. -/
def fnExactLeftTimesWrong : ChangeSpec := { name := "fnExactLeftTimes", fn := fun _ => fun
  | [d1, d2] => { results := [.lit (.bool false)], args := [d1, d2] }
  | _ => none }
def FnExactLeftTimesWrongFalsely : Prop := fnExactLeftTimesRow.holds Try.pinned (OpenSpec.ofChange fnExactLeftTimesWrong)

/-- 'laws.FnExactEvenOnes': WHATEVER THE INPUT: true; the input reads as it did. -/
def fnExactEvenOnesSpec : ChangeSpec := { name := "fnExactEvenOnes", fn := fun _ => fun
  | [d] => { results := [.lit (.bool true)], args := [d] }
  | _ => none }
def fnExactEvenOnesRow : OpenClaim := { program := "ytllbakbhdfoadaa", sum := "f1e616e12964d8a470b3b9a7793b0fe9373e6ea6cc7ecc2adac576dd1fb88b92", func := "loop.example/g00894/laws.FnExactEvenOnes", spec := "fnExactEvenOnes", apart := false }
def FnExactEvenOnesSaid : Prop := fnExactEvenOnesRow.holds Try.pinned (OpenSpec.ofChange fnExactEvenOnesSpec)

/-- ITS FALSE NEIGHBOUR: 'it returns false'. Refute it at one input. -/
def fnExactEvenOnesWrong : ChangeSpec := { name := "fnExactEvenOnes", fn := fun _ => fun
  | [d] => { results := [.lit (.bool false)], args := [d] }
  | _ => none }
def FnExactEvenOnesWrongFalsely : Prop := fnExactEvenOnesRow.holds Try.pinned (OpenSpec.ofChange fnExactEvenOnesWrong)

/-- 'laws.FnExactMeetIn': WHATEVER THE INPUT: true; the input reads as it did. -/
def fnExactMeetInSpec : ChangeSpec := { name := "fnExactMeetIn", fn := fun _ => fun
  | [d1, d2] => { results := [.lit (.bool true)], args := [d1, d2] }
  | _ => none }
def fnExactMeetInRow : OpenClaim := { program := "ytllbakbhdfoadaa", sum := "f1e616e12964d8a470b3b9a7793b0fe9373e6ea6cc7ecc2adac576dd1fb88b92", func := "loop.example/g00894/laws.FnExactMeetIn", spec := "fnExactMeetIn", apart := false }
def FnExactMeetInSaid : Prop := fnExactMeetInRow.holds Try.pinned (OpenSpec.ofChange fnExactMeetInSpec)

/-- ITS FALSE NEIGHBOUR: 'it returns false'. Refute it at one input. -/
def fnExactMeetInWrong : ChangeSpec := { name := "fnExactMeetIn", fn := fun _ => fun
  | [d1, d2] => { results := [.lit (.bool false)], args := [d1, d2] }
  | _ => none }
def FnExactMeetInWrongFalsely : Prop := fnExactMeetInRow.holds Try.pinned (OpenSpec.ofChange fnExactMeetInWrong)

/-- 'laws.FnExactRepeatsIn': WHATEVER THE INPUT: true; the input reads as it did. -/
def fnExactRepeatsInSpec : ChangeSpec := { name := "fnExactRepeatsIn", fn := fun _ => fun
  | [d] => { results := [.lit (.bool true)], args := [d] }
  | _ => none }
def fnExactRepeatsInRow : OpenClaim := { program := "ytllbakbhdfoadaa", sum := "f1e616e12964d8a470b3b9a7793b0fe9373e6ea6cc7ecc2adac576dd1fb88b92", func := "loop.example/g00894/laws.FnExactRepeatsIn", spec := "fnExactRepeatsIn", apart := false }
def FnExactRepeatsInSaid : Prop := fnExactRepeatsInRow.holds Try.pinned (OpenSpec.ofChange fnExactRepeatsInSpec)

/-- ITS FALSE NEIGHBOUR: 'it returns false'. Refute it at one input. -/
def fnExactRepeatsInWrong : ChangeSpec := { name := "fnExactRepeatsIn", fn := fun _ => fun
  | [d] => { results := [.lit (.bool false)], args := [d] }
  | _ => none }
def FnExactRepeatsInWrongFalsely : Prop := fnExactRepeatsInRow.holds Try.pinned (OpenSpec.ofChange fnExactRepeatsInWrong)

/-- 'laws.FnExactIsLevel': WHATEVER THE INPUT: true; the input reads as it did. -/
def fnExactIsLevelSpec : ChangeSpec := { name := "fnExactIsLevel", fn := fun _ => fun
  | [d] => { results := [.lit (.bool true)], args := [d] }
  | _ => none }
def fnExactIsLevelRow : OpenClaim := { program := "ytllbakbhdfoadaa", sum := "f1e616e12964d8a470b3b9a7793b0fe9373e6ea6cc7ecc2adac576dd1fb88b92", func := "loop.example/g00894/laws.FnExactIsLevel", spec := "fnExactIsLevel", apart := false }
def FnExactIsLevelSaid : Prop := fnExactIsLevelRow.holds Try.pinned (OpenSpec.ofChange fnExactIsLevelSpec)

/-- ITS FALSE NEIGHBOUR: 'it returns false'. Refute it at one input. -/
def fnExactIsLevelWrong : ChangeSpec := { name := "fnExactIsLevel", fn := fun _ => fun
  | [d] => { results := [.lit (.bool false)], args := [d] }
  | _ => none }
def FnExactIsLevelWrongFalsely : Prop := fnExactIsLevelRow.holds Try.pinned (OpenSpec.ofChange fnExactIsLevelWrong)

/- THE SECOND FORM. 'bulk': how many values and letters a reading holds, each counted each time it is reached (what is shared counts as often as it is met; a slice's spare places count too). A statement '..UptoSaid' is the law's where the arguments, and the package variables that the reading takes, are together of bulk at most 1048576: NARROWER than '..Said'. Prove '..Said' where nothing that the law and all that it calls make is longer than what came in: it says more and counts as full. Else prove '..UptoSaid'. A law counts once. -/
mutual
def uptoBulk {H : Type} : DataW H → Nat
  | .lit (.string bytes) => bytes.length + 1
  | .lit _ => 1
  | .nil => 1
  | .ptr d => uptoBulk d + 1
  | .slice elems spare => uptoBulkAll elems + uptoBulkAll spare + 1
  | .agg parts => uptoBulkAll parts + 1
  | .iface _ d => uptoBulk d + 1
  | .map entries => uptoBulkEntries entries + 1
  | .held _ => 1
def uptoBulkAll {H : Type} : List (DataW H) → Nat
  | [] => 0
  | d :: r => uptoBulk d + uptoBulkAll r
def uptoBulkEntries {H : Type} : List (Lit × DataW H) → Nat
  | [] => 0
  | x :: r => uptoBulkEntry x + uptoBulkEntries r
def uptoBulkEntry {H : Type} : Lit × DataW H → Nat
  | (.string bytes, d) => bytes.length + uptoBulk d + 1
  | (_, d) => uptoBulk d + 1
 end
def uptoSmall : (H : Type) → List (DataW H) → Bool := fun _ ds => decide (uptoBulkAll ds ≤ 1048576)
def OpenSpec.upto (s : _root_.Go.ChangeSpec) : _root_.Go.OpenSpec := { _root_.Go.OpenSpec.ofChange s with cond := some uptoSmall }

/-- 'laws.FnExactSameMethod', WHERE WHAT IT READS IS OF BULK AT MOST 1048576: true; the input reads as it did. -/
def fnExactSameMethodUptoRow : OpenClaim := { program := "ytllbakbhdfoadaa", sum := "f1e616e12964d8a470b3b9a7793b0fe9373e6ea6cc7ecc2adac576dd1fb88b92", func := "loop.example/g00894/laws.FnExactSameMethod", spec := "fnExactSameMethod", apart := false, narrowed := true }
def FnExactSameMethodUptoSaid : Prop := fnExactSameMethodUptoRow.holds Try.pinned (OpenSpec.upto fnExactSameMethodSpec)

/-- 'laws.FnExactIsPalindrome', WHERE WHAT IT READS IS OF BULK AT MOST 1048576: true; the input reads as it did. -/
def fnExactIsPalindromeUptoRow : OpenClaim := { program := "ytllbakbhdfoadaa", sum := "f1e616e12964d8a470b3b9a7793b0fe9373e6ea6cc7ecc2adac576dd1fb88b92", func := "loop.example/g00894/laws.FnExactIsPalindrome", spec := "fnExactIsPalindrome", apart := false, narrowed := true }
def FnExactIsPalindromeUptoSaid : Prop := fnExactIsPalindromeUptoRow.holds Try.pinned (OpenSpec.upto fnExactIsPalindromeSpec)

/-- 'laws.FnExactTurnMethod', WHERE WHAT IT READS IS OF BULK AT MOST 1048576: true; the input reads as it did. -/
def fnExactTurnMethodUptoRow : OpenClaim := { program := "ytllbakbhdfoadaa", sum := "f1e616e12964d8a470b3b9a7793b0fe9373e6ea6cc7ecc2adac576dd1fb88b92", func := "loop.example/g00894/laws.FnExactTurnMethod", spec := "fnExactTurnMethod", apart := false, narrowed := true }
def FnExactTurnMethodUptoSaid : Prop := fnExactTurnMethodUptoRow.holds Try.pinned (OpenSpec.upto fnExactTurnMethodSpec)

/-- 'laws.FnExactStartAt', WHERE WHAT IT READS IS OF BULK AT MOST 1048576: true; the input reads as it did. -/
def fnExactStartAtUptoRow : OpenClaim := { program := "ytllbakbhdfoadaa", sum := "f1e616e12964d8a470b3b9a7793b0fe9373e6ea6cc7ecc2adac576dd1fb88b92", func := "loop.example/g00894/laws.FnExactStartAt", spec := "fnExactStartAt", apart := false, narrowed := true }
def FnExactStartAtUptoSaid : Prop := fnExactStartAtUptoRow.holds Try.pinned (OpenSpec.upto fnExactStartAtSpec)

/-- 'laws.FnExactPointsIn', WHERE WHAT IT READS IS OF BULK AT MOST 1048576: true; the input reads as it did. -/
def fnExactPointsInUptoRow : OpenClaim := { program := "ytllbakbhdfoadaa", sum := "f1e616e12964d8a470b3b9a7793b0fe9373e6ea6cc7ecc2adac576dd1fb88b92", func := "loop.example/g00894/laws.FnExactPointsIn", spec := "fnExactPointsIn", apart := false, narrowed := true }
def FnExactPointsInUptoSaid : Prop := fnExactPointsInUptoRow.holds Try.pinned (OpenSpec.upto fnExactPointsInSpec)

/-- 'laws.FnExactDodgesIn', WHERE WHAT IT READS IS OF BULK AT MOST 1048576: true; the input reads as it did. -/
def fnExactDodgesInUptoRow : OpenClaim := { program := "ytllbakbhdfoadaa", sum := "f1e616e12964d8a470b3b9a7793b0fe9373e6ea6cc7ecc2adac576dd1fb88b92", func := "loop.example/g00894/laws.FnExactDodgesIn", spec := "fnExactDodgesIn", apart := false, narrowed := true }
def FnExactDodgesInUptoSaid : Prop := fnExactDodgesInUptoRow.holds Try.pinned (OpenSpec.upto fnExactDodgesInSpec)

/-- 'laws.FnExactRowsOf', WHERE WHAT IT READS IS OF BULK AT MOST 1048576: true; the input reads as it did. -/
def fnExactRowsOfUptoRow : OpenClaim := { program := "ytllbakbhdfoadaa", sum := "f1e616e12964d8a470b3b9a7793b0fe9373e6ea6cc7ecc2adac576dd1fb88b92", func := "loop.example/g00894/laws.FnExactRowsOf", spec := "fnExactRowsOf", apart := false, narrowed := true }
def FnExactRowsOfUptoSaid : Prop := fnExactRowsOfUptoRow.holds Try.pinned (OpenSpec.upto fnExactRowsOfSpec)

/-- 'laws.FnExactLeftTimes', WHERE WHAT IT READS IS OF BULK AT MOST 1048576: true; the input reads as it did. -/
def fnExactLeftTimesUptoRow : OpenClaim := { program := "ytllbakbhdfoadaa", sum := "f1e616e12964d8a470b3b9a7793b0fe9373e6ea6cc7ecc2adac576dd1fb88b92", func := "loop.example/g00894/laws.FnExactLeftTimes", spec := "fnExactLeftTimes", apart := false, narrowed := true }
def FnExactLeftTimesUptoSaid : Prop := fnExactLeftTimesUptoRow.holds Try.pinned (OpenSpec.upto fnExactLeftTimesSpec)

/-- 'laws.FnExactEvenOnes', WHERE WHAT IT READS IS OF BULK AT MOST 1048576: true; the input reads as it did. -/
def fnExactEvenOnesUptoRow : OpenClaim := { program := "ytllbakbhdfoadaa", sum := "f1e616e12964d8a470b3b9a7793b0fe9373e6ea6cc7ecc2adac576dd1fb88b92", func := "loop.example/g00894/laws.FnExactEvenOnes", spec := "fnExactEvenOnes", apart := false, narrowed := true }
def FnExactEvenOnesUptoSaid : Prop := fnExactEvenOnesUptoRow.holds Try.pinned (OpenSpec.upto fnExactEvenOnesSpec)

/-- 'laws.FnExactMeetIn', WHERE WHAT IT READS IS OF BULK AT MOST 1048576: true; the input reads as it did. -/
def fnExactMeetInUptoRow : OpenClaim := { program := "ytllbakbhdfoadaa", sum := "f1e616e12964d8a470b3b9a7793b0fe9373e6ea6cc7ecc2adac576dd1fb88b92", func := "loop.example/g00894/laws.FnExactMeetIn", spec := "fnExactMeetIn", apart := false, narrowed := true }
def FnExactMeetInUptoSaid : Prop := fnExactMeetInUptoRow.holds Try.pinned (OpenSpec.upto fnExactMeetInSpec)

/-- 'laws.FnExactRepeatsIn', WHERE WHAT IT READS IS OF BULK AT MOST 1048576: true; the input reads as it did. -/
def fnExactRepeatsInUptoRow : OpenClaim := { program := "ytllbakbhdfoadaa", sum := "f1e616e12964d8a470b3b9a7793b0fe9373e6ea6cc7ecc2adac576dd1fb88b92", func := "loop.example/g00894/laws.FnExactRepeatsIn", spec := "fnExactRepeatsIn", apart := false, narrowed := true }
def FnExactRepeatsInUptoSaid : Prop := fnExactRepeatsInUptoRow.holds Try.pinned (OpenSpec.upto fnExactRepeatsInSpec)

/-- 'laws.FnExactIsLevel', WHERE WHAT IT READS IS OF BULK AT MOST 1048576: true; the input reads as it did. -/
def fnExactIsLevelUptoRow : OpenClaim := { program := "ytllbakbhdfoadaa", sum := "f1e616e12964d8a470b3b9a7793b0fe9373e6ea6cc7ecc2adac576dd1fb88b92", func := "loop.example/g00894/laws.FnExactIsLevel", spec := "fnExactIsLevel", apart := false, narrowed := true }
def FnExactIsLevelUptoSaid : Prop := fnExactIsLevelUptoRow.holds Try.pinned (OpenSpec.upto fnExactIsLevelSpec)

end Rows
end Go.Proofs.Ytllbakbhdfoadaa
