/-
  No cell of these rows narrows 'for every input' (looked for: loops, veiled, ifaces, maps, wideKeys, modest, calm, conditions, laid).
  DERIVED. THE GIVEN ROWS OF THIS SEAT. 13 by the template 'for every input the law returns true; each argument reads behind the call as it read before'; 0 by the template 'total and deterministic' (their statements: YtlldocdmjeeaaaaTotals.lean).
  GIVEN WITH THE SEED: the statements are not yours to turn. If you find one false, say at which input.
  Laid BY PROGRAM, IN A SANDBOX (cutbox-rows.mjs): the forced cells as the released guide's own fill.sh prints them over the translation fb158054ff32d069… (all of the seat's roots in one cut). By AI agents, Wed Nov 11 2026. No macro, syntax, notation, axiom, sorry.
-/
import Derived.Test.YtlldocdmjeeaaaaChecked
import GoSem.Claim
import GoSem.ClaimJoined
import GoSem.ClaimMapViews
import Derived.JoinedTies
import Derived.KernelRfl
namespace Go.Proofs.Ytlldocdmjeeaaaa
/- THE CELL 'sum', in the pinned program and in every row, IS THE sha256 OF THE DUMP (.gsa) THAT YtlldocdmjeeaaaaProg.lean LOADS. Nothing in Lean hashes anything: it is a label: what it is worth is what the hold of that sum in a sandbox is worth. -/
noncomputable def Try.pinned : Pinned := { name := "ytlldocdmjeeaaaa", sum := "fb158054ff32d069ad045f0231b86b1504212bf76804703896423d3df01b6b4d", checked := Try.checked }
namespace Rows
def none {H : Type} : Left H := { results := [], args := [] }

/-- 'laws.FnExactIsHand': WHATEVER THE INPUT: true; the input reads as it did. -/
def fnExactIsHandSpec : ChangeSpec := { name := "fnExactIsHand", fn := fun _ => fun
  | [d] => { results := [.lit (.bool true)], args := [d] }
  | _ => none }
def fnExactIsHandRow : OpenClaim := { program := "ytlldocdmjeeaaaa", sum := "fb158054ff32d069ad045f0231b86b1504212bf76804703896423d3df01b6b4d", func := "loop.example/g01401/laws.FnExactIsHand", spec := "fnExactIsHand", apart := false }
def FnExactIsHandSaid : Prop := fnExactIsHandRow.holds Try.pinned (OpenSpec.ofChange fnExactIsHandSpec)

/-- ITS FALSE NEIGHBOUR: 'it returns false'. Refute it at one input. -/
def fnExactIsHandWrong : ChangeSpec := { name := "fnExactIsHand", fn := fun _ => fun
  | [d] => { results := [.lit (.bool false)], args := [d] }
  | _ => none }
def FnExactIsHandWrongFalsely : Prop := fnExactIsHandRow.holds Try.pinned (OpenSpec.ofChange fnExactIsHandWrong)

/-- 'laws.FnExactKindOf': WHATEVER THE INPUT: true; the input reads as it did. -/
def fnExactKindOfSpec : ChangeSpec := { name := "fnExactKindOf", fn := fun _ => fun
  | [d] => { results := [.lit (.bool true)], args := [d] }
  | _ => none }
def fnExactKindOfRow : OpenClaim := { program := "ytlldocdmjeeaaaa", sum := "fb158054ff32d069ad045f0231b86b1504212bf76804703896423d3df01b6b4d", func := "loop.example/g01401/laws.FnExactKindOf", spec := "fnExactKindOf", unfollowed := true, recurses := true, apart := false }
def FnExactKindOfSaid : Prop := fnExactKindOfRow.holds Try.pinned (OpenSpec.ofChange fnExactKindOfSpec)

/-- ITS FALSE NEIGHBOUR: 'it returns false'. Refute it at one input. -/
def fnExactKindOfWrong : ChangeSpec := { name := "fnExactKindOf", fn := fun _ => fun
  | [d] => { results := [.lit (.bool false)], args := [d] }
  | _ => none }
def FnExactKindOfWrongFalsely : Prop := fnExactKindOfRow.holds Try.pinned (OpenSpec.ofChange fnExactKindOfWrong)

/-- 'laws.FnExactValueOf': WHATEVER THE INPUT: true; the input reads as it did. -/
def fnExactValueOfSpec : ChangeSpec := { name := "fnExactValueOf", fn := fun _ => fun
  | [d] => { results := [.lit (.bool true)], args := [d] }
  | _ => none }
def fnExactValueOfRow : OpenClaim := { program := "ytlldocdmjeeaaaa", sum := "fb158054ff32d069ad045f0231b86b1504212bf76804703896423d3df01b6b4d", func := "loop.example/g01401/laws.FnExactValueOf", spec := "fnExactValueOf", unfollowed := true, recurses := true, apart := false }
def FnExactValueOfSaid : Prop := fnExactValueOfRow.holds Try.pinned (OpenSpec.ofChange fnExactValueOfSpec)

/-- ITS FALSE NEIGHBOUR: 'it returns false'. Refute it at one input. -/
def fnExactValueOfWrong : ChangeSpec := { name := "fnExactValueOf", fn := fun _ => fun
  | [d] => { results := [.lit (.bool false)], args := [d] }
  | _ => none }
def FnExactValueOfWrongFalsely : Prop := fnExactValueOfRow.holds Try.pinned (OpenSpec.ofChange fnExactValueOfWrong)

/-- 'laws.FnExactBestFive': WHATEVER THE INPUT: true; the input reads as it did. -/
def fnExactBestFiveSpec : ChangeSpec := { name := "fnExactBestFive", fn := fun _ => fun
  | [d] => { results := [.lit (.bool true)], args := [d] }
  | _ => none }
def fnExactBestFiveRow : OpenClaim := { program := "ytlldocdmjeeaaaa", sum := "fb158054ff32d069ad045f0231b86b1504212bf76804703896423d3df01b6b4d", func := "loop.example/g01401/laws.FnExactBestFive", spec := "fnExactBestFive", unfollowed := true, recurses := true, apart := false }
def FnExactBestFiveSaid : Prop := fnExactBestFiveRow.holds Try.pinned (OpenSpec.ofChange fnExactBestFiveSpec)

/-- ITS FALSE NEIGHBOUR: 'it returns false'. Refute it at one input. -/
def fnExactBestFiveWrong : ChangeSpec := { name := "fnExactBestFive", fn := fun _ => fun
  | [d] => { results := [.lit (.bool false)], args := [d] }
  | _ => none }
def FnExactBestFiveWrongFalsely : Prop := fnExactBestFiveRow.holds Try.pinned (OpenSpec.ofChange fnExactBestFiveWrong)

/-- 'laws.FnExactCompareHands': WHATEVER THE INPUT: true; the input reads as it did. -/
def fnExactCompareHandsSpec : ChangeSpec := { name := "fnExactCompareHands", fn := fun _ => fun
  | [d1, d2] => { results := [.lit (.bool true)], args := [d1, d2] }
  | _ => none }
def fnExactCompareHandsRow : OpenClaim := { program := "ytlldocdmjeeaaaa", sum := "fb158054ff32d069ad045f0231b86b1504212bf76804703896423d3df01b6b4d", func := "loop.example/g01401/laws.FnExactCompareHands", spec := "fnExactCompareHands", unfollowed := true, recurses := true, apart := false }
def FnExactCompareHandsSaid : Prop := fnExactCompareHandsRow.holds Try.pinned (OpenSpec.ofChange fnExactCompareHandsSpec)

/-- ITS FALSE NEIGHBOUR: 'it returns false'. Refute it at one input. -/
def fnExactCompareHandsWrong : ChangeSpec := { name := "fnExactCompareHands", fn := fun _ => fun
  | [d1, d2] => { results := [.lit (.bool false)], args := [d1, d2] }
  | _ => none }
def FnExactCompareHandsWrongFalsely : Prop := fnExactCompareHandsRow.holds Try.pinned (OpenSpec.ofChange fnExactCompareHandsWrong)

/-- 'laws.FnExactBestShared': WHATEVER THE INPUT: true; the input reads as it did. -/
def fnExactBestSharedSpec : ChangeSpec := { name := "fnExactBestShared", fn := fun _ => fun
  | [d1, d2] => { results := [.lit (.bool true)], args := [d1, d2] }
  | _ => none }
def fnExactBestSharedRow : OpenClaim := { program := "ytlldocdmjeeaaaa", sum := "fb158054ff32d069ad045f0231b86b1504212bf76804703896423d3df01b6b4d", func := "loop.example/g01401/laws.FnExactBestShared", spec := "fnExactBestShared", unfollowed := true, recurses := true, apart := false }
def FnExactBestSharedSaid : Prop := fnExactBestSharedRow.holds Try.pinned (OpenSpec.ofChange fnExactBestSharedSpec)

/-- ITS FALSE NEIGHBOUR: 'it returns false'. Refute it at one input. -/
def fnExactBestSharedWrong : ChangeSpec := { name := "fnExactBestShared", fn := fun _ => fun
  | [d1, d2] => { results := [.lit (.bool false)], args := [d1, d2] }
  | _ => none }
def FnExactBestSharedWrongFalsely : Prop := fnExactBestSharedRow.holds Try.pinned (OpenSpec.ofChange fnExactBestSharedWrong)

/-- 'laws.FnExactOutsOf': WHATEVER THE INPUT: true; the input reads as it did. -/
def fnExactOutsOfSpec : ChangeSpec := { name := "fnExactOutsOf", fn := fun _ => fun
  | [d1, d2] => { results := [.lit (.bool true)], args := [d1, d2] }
  | _ => none }
def fnExactOutsOfRow : OpenClaim := { program := "ytlldocdmjeeaaaa", sum := "fb158054ff32d069ad045f0231b86b1504212bf76804703896423d3df01b6b4d", func := "loop.example/g01401/laws.FnExactOutsOf", spec := "fnExactOutsOf", unfollowed := true, recurses := true, apart := false }
def FnExactOutsOfSaid : Prop := fnExactOutsOfRow.holds Try.pinned (OpenSpec.ofChange fnExactOutsOfSpec)

/-- ITS FALSE NEIGHBOUR: 'it returns false'. Refute it at one input. -/
def fnExactOutsOfWrong : ChangeSpec := { name := "fnExactOutsOf", fn := fun _ => fun
  | [d1, d2] => { results := [.lit (.bool false)], args := [d1, d2] }
  | _ => none }
def FnExactOutsOfWrongFalsely : Prop := fnExactOutsOfRow.holds Try.pinned (OpenSpec.ofChange fnExactOutsOfWrong)

/-- 'laws.FnExactFaceOf': WHATEVER THE INPUT: true; the input reads as it did. -/
def fnExactFaceOfSpec : ChangeSpec := { name := "fnExactFaceOf", fn := fun _ => fun
  | [d] => { results := [.lit (.bool true)], args := [d] }
  | _ => none }
def fnExactFaceOfRow : OpenClaim := { program := "ytlldocdmjeeaaaa", sum := "fb158054ff32d069ad045f0231b86b1504212bf76804703896423d3df01b6b4d", func := "loop.example/g01401/laws.FnExactFaceOf", spec := "fnExactFaceOf", recurses := true, apart := false }
def FnExactFaceOfSaid : Prop := fnExactFaceOfRow.holds Try.pinned (OpenSpec.ofChange fnExactFaceOfSpec)

/-- ITS FALSE NEIGHBOUR: 'it returns false'. Refute it at one input. -/
def fnExactFaceOfWrong : ChangeSpec := { name := "fnExactFaceOf", fn := fun _ => fun
  | [d] => { results := [.lit (.bool false)], args := [d] }
  | _ => none }
def FnExactFaceOfWrongFalsely : Prop := fnExactFaceOfRow.holds Try.pinned (OpenSpec.ofChange fnExactFaceOfWrong)

/-- 'laws.FnExactFacesOf': WHATEVER THE INPUT: true; the input reads as it did. -/
def fnExactFacesOfSpec : ChangeSpec := { name := "fnExactFacesOf", fn := fun _ => fun
  | [d] => { results := [.lit (.bool true)], args := [d] }
  | _ => none }
def fnExactFacesOfRow : OpenClaim := { program := "ytlldocdmjeeaaaa", sum := "fb158054ff32d069ad045f0231b86b1504212bf76804703896423d3df01b6b4d", func := "loop.example/g01401/laws.FnExactFacesOf", spec := "fnExactFacesOf", unfollowed := true, recurses := true, apart := false }
def FnExactFacesOfSaid : Prop := fnExactFacesOfRow.holds Try.pinned (OpenSpec.ofChange fnExactFacesOfSpec)

/-- ITS FALSE NEIGHBOUR: 'it returns false'. Refute it at one input. -/
def fnExactFacesOfWrong : ChangeSpec := { name := "fnExactFacesOf", fn := fun _ => fun
  | [d] => { results := [.lit (.bool false)], args := [d] }
  | _ => none }
def FnExactFacesOfWrongFalsely : Prop := fnExactFacesOfRow.holds Try.pinned (OpenSpec.ofChange fnExactFacesOfWrong)

/-- 'laws.FnExactWinCounts': WHATEVER THE INPUT: true; the input reads as it did. -/
def fnExactWinCountsSpec : ChangeSpec := { name := "fnExactWinCounts", fn := fun _ => fun
  | [d1, d2] => { results := [.lit (.bool true)], args := [d1, d2] }
  | _ => none }
def fnExactWinCountsRow : OpenClaim := { program := "ytlldocdmjeeaaaa", sum := "fb158054ff32d069ad045f0231b86b1504212bf76804703896423d3df01b6b4d", func := "loop.example/g01401/laws.FnExactWinCounts", spec := "fnExactWinCounts", unfollowed := true, recurses := true, apart := false }
def FnExactWinCountsSaid : Prop := fnExactWinCountsRow.holds Try.pinned (OpenSpec.ofChange fnExactWinCountsSpec)

/-- ITS FALSE NEIGHBOUR: 'it returns false'. Refute it at one input. -/
def fnExactWinCountsWrong : ChangeSpec := { name := "fnExactWinCounts", fn := fun _ => fun
  | [d1, d2] => { results := [.lit (.bool false)], args := [d1, d2] }
  | _ => none }
def FnExactWinCountsWrongFalsely : Prop := fnExactWinCountsRow.holds Try.pinned (OpenSpec.ofChange fnExactWinCountsWrong)

/-- 'laws.FnExactDrawnWins': WHATEVER THE INPUT: true; the input reads as it did. -/
def fnExactDrawnWinsSpec : ChangeSpec := { name := "fnExactDrawnWins", fn := fun _ => fun
  | [d1, d2, d3, d4] => { results := [.lit (.bool true)], args := [d1, d2, d3, d4] }
  | _ => none }
def fnExactDrawnWinsRow : OpenClaim := { program := "ytlldocdmjeeaaaa", sum := "fb158054ff32d069ad045f0231b86b1504212bf76804703896423d3df01b6b4d", func := "loop.example/g01401/laws.FnExactDrawnWins", spec := "fnExactDrawnWins", unfollowed := true, recurses := true, apart := false }
def FnExactDrawnWinsSaid : Prop := fnExactDrawnWinsRow.holds Try.pinned (OpenSpec.ofChange fnExactDrawnWinsSpec)

/-- ITS FALSE NEIGHBOUR: 'it returns false'. Refute it at one input. -/
def fnExactDrawnWinsWrong : ChangeSpec := { name := "fnExactDrawnWins", fn := fun _ => fun
  | [d1, d2, d3, d4] => { results := [.lit (.bool false)], args := [d1, d2, d3, d4] }
  | _ => none }
def FnExactDrawnWinsWrongFalsely : Prop := fnExactDrawnWinsRow.holds Try.pinned (OpenSpec.ofChange fnExactDrawnWinsWrong)

/-- 'laws.FnHands': WHATEVER THE INPUT: true; the input reads as it did. -/
def fnHandsSpec : ChangeSpec := { name := "fnHands", fn := fun _ => fun
  | [d1, d2] => { results := [.lit (.bool true)], args := [d1, d2] }
  | _ => none }
def fnHandsRow : OpenClaim := { program := "ytlldocdmjeeaaaa", sum := "fb158054ff32d069ad045f0231b86b1504212bf76804703896423d3df01b6b4d", func := "loop.example/g01401/laws.FnHands", spec := "fnHands", unfollowed := true, recurses := true, apart := false }
def FnHandsSaid : Prop := fnHandsRow.holds Try.pinned (OpenSpec.ofChange fnHandsSpec)

/-- ITS FALSE NEIGHBOUR: 'it returns false'. Refute it at one input. -/
def fnHandsWrong : ChangeSpec := { name := "fnHands", fn := fun _ => fun
  | [d1, d2] => { results := [.lit (.bool false)], args := [d1, d2] }
  | _ => none }
def FnHandsWrongFalsely : Prop := fnHandsRow.holds Try.pinned (OpenSpec.ofChange fnHandsWrong)

/-- 'laws.FnWins': WHATEVER THE INPUT: true; the input reads as it did. -/
def fnWinsSpec : ChangeSpec := { name := "fnWins", fn := fun _ => fun
  | [d1, d2] => { results := [.lit (.bool true)], args := [d1, d2] }
  | _ => none }
def fnWinsRow : OpenClaim := { program := "ytlldocdmjeeaaaa", sum := "fb158054ff32d069ad045f0231b86b1504212bf76804703896423d3df01b6b4d", func := "loop.example/g01401/laws.FnWins", spec := "fnWins", unfollowed := true, recurses := true, apart := false }
def FnWinsSaid : Prop := fnWinsRow.holds Try.pinned (OpenSpec.ofChange fnWinsSpec)

/-- ITS FALSE NEIGHBOUR: 'it returns false'. Refute it at one input. -/
def fnWinsWrong : ChangeSpec := { name := "fnWins", fn := fun _ => fun
  | [d1, d2] => { results := [.lit (.bool false)], args := [d1, d2] }
  | _ => none }
def FnWinsWrongFalsely : Prop := fnWinsRow.holds Try.pinned (OpenSpec.ofChange fnWinsWrong)

/- THE SECOND FORM. 'bulk': how many values and letters a reading holds, each counted each time it is reached (what is shared counts as often as it is met; a slice's spare places count too). A statement '..UptoSaid' is the law's where the arguments, and the package variables that the reading takes, are together of bulk at most 1048576: NARROWER than '..Said'. Prove '..Said' where nothing that the law and all that it calls make is longer than what came in: it says more and counts as full. Else prove '..UptoSaid'. A law counts once. -/
mutual
def uptoBulk {H : Type} : DataW H → Nat
  | .lit (.string bytes) => bytes.length + 1
  | .lit _ => 1
  | .nil => 1
  | .ptr d => uptoBulk d + 1
  | .slice elems spare => uptoBulkAll elems + uptoBulkAll spare + 1
  | .agg parts => uptoBulkAll parts + 1
  | .iface _ d => uptoBulk d + 1
  | .map entries => uptoBulkEntries entries + 1
  | .held _ => 1
def uptoBulkAll {H : Type} : List (DataW H) → Nat
  | [] => 0
  | d :: r => uptoBulk d + uptoBulkAll r
def uptoBulkEntries {H : Type} : List (Lit × DataW H) → Nat
  | [] => 0
  | x :: r => uptoBulkEntry x + uptoBulkEntries r
def uptoBulkEntry {H : Type} : Lit × DataW H → Nat
  | (.string bytes, d) => bytes.length + uptoBulk d + 1
  | (_, d) => uptoBulk d + 1
 end
def uptoSmall : (H : Type) → List (DataW H) → Bool := fun _ ds => decide (uptoBulkAll ds ≤ 1048576)
def OpenSpec.upto (s : _root_.Go.ChangeSpec) : _root_.Go.OpenSpec := { _root_.Go.OpenSpec.ofChange s with cond := some uptoSmall }

/-- 'laws.FnExactIsHand', WHERE WHAT IT READS IS OF BULK AT MOST 1048576: true; the input reads as it did. -/
def fnExactIsHandUptoRow : OpenClaim := { program := "ytlldocdmjeeaaaa", sum := "fb158054ff32d069ad045f0231b86b1504212bf76804703896423d3df01b6b4d", func := "loop.example/g01401/laws.FnExactIsHand", spec := "fnExactIsHand", apart := false, narrowed := true }
def FnExactIsHandUptoSaid : Prop := fnExactIsHandUptoRow.holds Try.pinned (OpenSpec.upto fnExactIsHandSpec)

/-- 'laws.FnExactKindOf', WHERE WHAT IT READS IS OF BULK AT MOST 1048576: true; the input reads as it did. -/
def fnExactKindOfUptoRow : OpenClaim := { program := "ytlldocdmjeeaaaa", sum := "fb158054ff32d069ad045f0231b86b1504212bf76804703896423d3df01b6b4d", func := "loop.example/g01401/laws.FnExactKindOf", spec := "fnExactKindOf", unfollowed := true, recurses := true, apart := false, narrowed := true }
def FnExactKindOfUptoSaid : Prop := fnExactKindOfUptoRow.holds Try.pinned (OpenSpec.upto fnExactKindOfSpec)

/-- 'laws.FnExactValueOf', WHERE WHAT IT READS IS OF BULK AT MOST 1048576: true; the input reads as it did. -/
def fnExactValueOfUptoRow : OpenClaim := { program := "ytlldocdmjeeaaaa", sum := "fb158054ff32d069ad045f0231b86b1504212bf76804703896423d3df01b6b4d", func := "loop.example/g01401/laws.FnExactValueOf", spec := "fnExactValueOf", unfollowed := true, recurses := true, apart := false, narrowed := true }
def FnExactValueOfUptoSaid : Prop := fnExactValueOfUptoRow.holds Try.pinned (OpenSpec.upto fnExactValueOfSpec)

/-- 'laws.FnExactBestFive', WHERE WHAT IT READS IS OF BULK AT MOST 1048576: true; the input reads as it did. -/
def fnExactBestFiveUptoRow : OpenClaim := { program := "ytlldocdmjeeaaaa", sum := "fb158054ff32d069ad045f0231b86b1504212bf76804703896423d3df01b6b4d", func := "loop.example/g01401/laws.FnExactBestFive", spec := "fnExactBestFive", unfollowed := true, recurses := true, apart := false, narrowed := true }
def FnExactBestFiveUptoSaid : Prop := fnExactBestFiveUptoRow.holds Try.pinned (OpenSpec.upto fnExactBestFiveSpec)

/-- 'laws.FnExactCompareHands', WHERE WHAT IT READS IS OF BULK AT MOST 1048576: true; the input reads as it did. -/
def fnExactCompareHandsUptoRow : OpenClaim := { program := "ytlldocdmjeeaaaa", sum := "fb158054ff32d069ad045f0231b86b1504212bf76804703896423d3df01b6b4d", func := "loop.example/g01401/laws.FnExactCompareHands", spec := "fnExactCompareHands", unfollowed := true, recurses := true, apart := false, narrowed := true }
def FnExactCompareHandsUptoSaid : Prop := fnExactCompareHandsUptoRow.holds Try.pinned (OpenSpec.upto fnExactCompareHandsSpec)

/-- 'laws.FnExactBestShared', WHERE WHAT IT READS IS OF BULK AT MOST 1048576: true; the input reads as it did. -/
def fnExactBestSharedUptoRow : OpenClaim := { program := "ytlldocdmjeeaaaa", sum := "fb158054ff32d069ad045f0231b86b1504212bf76804703896423d3df01b6b4d", func := "loop.example/g01401/laws.FnExactBestShared", spec := "fnExactBestShared", unfollowed := true, recurses := true, apart := false, narrowed := true }
def FnExactBestSharedUptoSaid : Prop := fnExactBestSharedUptoRow.holds Try.pinned (OpenSpec.upto fnExactBestSharedSpec)

/-- 'laws.FnExactOutsOf', WHERE WHAT IT READS IS OF BULK AT MOST 1048576: true; the input reads as it did. -/
def fnExactOutsOfUptoRow : OpenClaim := { program := "ytlldocdmjeeaaaa", sum := "fb158054ff32d069ad045f0231b86b1504212bf76804703896423d3df01b6b4d", func := "loop.example/g01401/laws.FnExactOutsOf", spec := "fnExactOutsOf", unfollowed := true, recurses := true, apart := false, narrowed := true }
def FnExactOutsOfUptoSaid : Prop := fnExactOutsOfUptoRow.holds Try.pinned (OpenSpec.upto fnExactOutsOfSpec)

/-- 'laws.FnExactFaceOf', WHERE WHAT IT READS IS OF BULK AT MOST 1048576: true; the input reads as it did. -/
def fnExactFaceOfUptoRow : OpenClaim := { program := "ytlldocdmjeeaaaa", sum := "fb158054ff32d069ad045f0231b86b1504212bf76804703896423d3df01b6b4d", func := "loop.example/g01401/laws.FnExactFaceOf", spec := "fnExactFaceOf", recurses := true, apart := false, narrowed := true }
def FnExactFaceOfUptoSaid : Prop := fnExactFaceOfUptoRow.holds Try.pinned (OpenSpec.upto fnExactFaceOfSpec)

/-- 'laws.FnExactFacesOf', WHERE WHAT IT READS IS OF BULK AT MOST 1048576: true; the input reads as it did. -/
def fnExactFacesOfUptoRow : OpenClaim := { program := "ytlldocdmjeeaaaa", sum := "fb158054ff32d069ad045f0231b86b1504212bf76804703896423d3df01b6b4d", func := "loop.example/g01401/laws.FnExactFacesOf", spec := "fnExactFacesOf", unfollowed := true, recurses := true, apart := false, narrowed := true }
def FnExactFacesOfUptoSaid : Prop := fnExactFacesOfUptoRow.holds Try.pinned (OpenSpec.upto fnExactFacesOfSpec)

/-- 'laws.FnExactWinCounts', WHERE WHAT IT READS IS OF BULK AT MOST 1048576: true; the input reads as it did. -/
def fnExactWinCountsUptoRow : OpenClaim := { program := "ytlldocdmjeeaaaa", sum := "fb158054ff32d069ad045f0231b86b1504212bf76804703896423d3df01b6b4d", func := "loop.example/g01401/laws.FnExactWinCounts", spec := "fnExactWinCounts", unfollowed := true, recurses := true, apart := false, narrowed := true }
def FnExactWinCountsUptoSaid : Prop := fnExactWinCountsUptoRow.holds Try.pinned (OpenSpec.upto fnExactWinCountsSpec)

/-- 'laws.FnExactDrawnWins', WHERE WHAT IT READS IS OF BULK AT MOST 1048576: true; the input reads as it did. -/
def fnExactDrawnWinsUptoRow : OpenClaim := { program := "ytlldocdmjeeaaaa", sum := "fb158054ff32d069ad045f0231b86b1504212bf76804703896423d3df01b6b4d", func := "loop.example/g01401/laws.FnExactDrawnWins", spec := "fnExactDrawnWins", unfollowed := true, recurses := true, apart := false, narrowed := true }
def FnExactDrawnWinsUptoSaid : Prop := fnExactDrawnWinsUptoRow.holds Try.pinned (OpenSpec.upto fnExactDrawnWinsSpec)

/-- 'laws.FnHands', WHERE WHAT IT READS IS OF BULK AT MOST 1048576: true; the input reads as it did. -/
def fnHandsUptoRow : OpenClaim := { program := "ytlldocdmjeeaaaa", sum := "fb158054ff32d069ad045f0231b86b1504212bf76804703896423d3df01b6b4d", func := "loop.example/g01401/laws.FnHands", spec := "fnHands", unfollowed := true, recurses := true, apart := false, narrowed := true }
def FnHandsUptoSaid : Prop := fnHandsUptoRow.holds Try.pinned (OpenSpec.upto fnHandsSpec)

/-- 'laws.FnWins', WHERE WHAT IT READS IS OF BULK AT MOST 1048576: true; the input reads as it did. -/
def fnWinsUptoRow : OpenClaim := { program := "ytlldocdmjeeaaaa", sum := "fb158054ff32d069ad045f0231b86b1504212bf76804703896423d3df01b6b4d", func := "loop.example/g01401/laws.FnWins", spec := "fnWins", unfollowed := true, recurses := true, apart := false, narrowed := true }
def FnWinsUptoSaid : Prop := fnWinsUptoRow.holds Try.pinned (OpenSpec.upto fnWinsSpec)

end Rows
end Go.Proofs.Ytlldocdmjeeaaaa
