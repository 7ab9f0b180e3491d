/-
  No cell of these rows narrows 'for every input' (looked for: loops, veiled, ifaces, maps, wideKeys, modest, calm, conditions, laid).
  DERIVED. THE GIVEN ROWS OF THIS SEAT. 12 by the template 'for every input the law returns true; each argument reads behind the call as it read before'; 0 by the template 'total and deterministic' (their statements: YtbihcffedlfobaaTotals.lean).
  GIVEN WITH THE SEED: the statements are not yours to turn. If you find one false, say at which input.
  Laid BY PROGRAM, IN A SANDBOX (cutbox-rows.mjs): the forced cells as the released guide's own fill.sh prints them over the translation f74d1ad7c60acb31… (all of the seat's roots in one cut). By AI agents, Wed Nov 11 2026. No macro, syntax, notation, axiom, sorry.
-/
import Derived.Test.YtbihcffedlfobaaChecked
import GoSem.Claim
import GoSem.ClaimJoined
import GoSem.ClaimMapViews
import Derived.JoinedTies
import Derived.KernelRfl
namespace Go.Proofs.Ytbihcffedlfobaa
/- THE CELL 'sum', in the pinned program and in every row, IS THE sha256 OF THE DUMP (.gsa) THAT YtbihcffedlfobaaProg.lean LOADS. Nothing in Lean hashes anything: it is a label: what it is worth is what the hold of that sum in a sandbox is worth. -/
noncomputable def Try.pinned : Pinned := { name := "ytbihcffedlfobaa", sum := "f74d1ad7c60acb31b39420b4058bbb2d4e3874d232cf61612acd448ef7aca64e", checked := Try.checked }
namespace Rows
def none {H : Type} : Left H := { results := [], args := [] }

/-- 'laws.FnExactDrawDeck': WHATEVER THE INPUT: true; the input reads as it did. -/
def fnExactDrawDeckSpec : ChangeSpec := { name := "fnExactDrawDeck", fn := fun _ => fun
  | [d1, d2] => { results := [.lit (.bool true)], args := [d1, d2] }
  | _ => none }
def fnExactDrawDeckRow : OpenClaim := { program := "ytbihcffedlfobaa", sum := "f74d1ad7c60acb31b39420b4058bbb2d4e3874d232cf61612acd448ef7aca64e", func := "loop.example/g01401/laws.FnExactDrawDeck", spec := "fnExactDrawDeck", apart := false }
def FnExactDrawDeckSaid : Prop := fnExactDrawDeckRow.holds Try.pinned (OpenSpec.ofChange fnExactDrawDeckSpec)

/-- ITS FALSE NEIGHBOUR: 'it returns false'. Refute it at one input. -/
def fnExactDrawDeckWrong : ChangeSpec := { name := "fnExactDrawDeck", fn := fun _ => fun
  | [d1, d2] => { results := [.lit (.bool false)], args := [d1, d2] }
  | _ => none }
def FnExactDrawDeckWrongFalsely : Prop := fnExactDrawDeckRow.holds Try.pinned (OpenSpec.ofChange fnExactDrawDeckWrong)

/-- 'laws.FnExactDescentsOf': WHATEVER THE INPUT: true; the input reads as it did. -/
def fnExactDescentsOfSpec : ChangeSpec := { name := "fnExactDescentsOf", fn := fun _ => fun
  | [d] => { results := [.lit (.bool true)], args := [d] }
  | _ => none }
def fnExactDescentsOfRow : OpenClaim := { program := "ytbihcffedlfobaa", sum := "f74d1ad7c60acb31b39420b4058bbb2d4e3874d232cf61612acd448ef7aca64e", func := "loop.example/g01401/laws.FnExactDescentsOf", spec := "fnExactDescentsOf", apart := false }
def FnExactDescentsOfSaid : Prop := fnExactDescentsOfRow.holds Try.pinned (OpenSpec.ofChange fnExactDescentsOfSpec)

/-- ITS FALSE NEIGHBOUR: 'it returns false'. Refute it at one input. -/
def fnExactDescentsOfWrong : ChangeSpec := { name := "fnExactDescentsOf", fn := fun _ => fun
  | [d] => { results := [.lit (.bool false)], args := [d] }
  | _ => none }
def FnExactDescentsOfWrongFalsely : Prop := fnExactDescentsOfRow.holds Try.pinned (OpenSpec.ofChange fnExactDescentsOfWrong)

/-- 'laws.FnExactJoinDecks': WHATEVER THE INPUT: true; the input reads as it did. -/
def fnExactJoinDecksSpec : ChangeSpec := { name := "fnExactJoinDecks", fn := fun _ => fun
  | [d1, d2] => { results := [.lit (.bool true)], args := [d1, d2] }
  | _ => none }
def fnExactJoinDecksRow : OpenClaim := { program := "ytbihcffedlfobaa", sum := "f74d1ad7c60acb31b39420b4058bbb2d4e3874d232cf61612acd448ef7aca64e", func := "loop.example/g01401/laws.FnExactJoinDecks", spec := "fnExactJoinDecks", apart := false }
def FnExactJoinDecksSaid : Prop := fnExactJoinDecksRow.holds Try.pinned (OpenSpec.ofChange fnExactJoinDecksSpec)

/-- ITS FALSE NEIGHBOUR: 'it returns false'. Refute it at one input. -/
def fnExactJoinDecksWrong : ChangeSpec := { name := "fnExactJoinDecks", fn := fun _ => fun
  | [d1, d2] => { results := [.lit (.bool false)], args := [d1, d2] }
  | _ => none }
def FnExactJoinDecksWrongFalsely : Prop := fnExactJoinDecksRow.holds Try.pinned (OpenSpec.ofChange fnExactJoinDecksWrong)

/-- 'laws.FnExactBackDeck': WHATEVER THE INPUT: true; the input reads as it did. -/
def fnExactBackDeckSpec : ChangeSpec := { name := "fnExactBackDeck", fn := fun _ => fun
  | [d] => { results := [.lit (.bool true)], args := [d] }
  | _ => none }
def fnExactBackDeckRow : OpenClaim := { program := "ytbihcffedlfobaa", sum := "f74d1ad7c60acb31b39420b4058bbb2d4e3874d232cf61612acd448ef7aca64e", func := "loop.example/g01401/laws.FnExactBackDeck", spec := "fnExactBackDeck", apart := false }
def FnExactBackDeckSaid : Prop := fnExactBackDeckRow.holds Try.pinned (OpenSpec.ofChange fnExactBackDeckSpec)

/-- ITS FALSE NEIGHBOUR: 'it returns false'. Refute it at one input. -/
def fnExactBackDeckWrong : ChangeSpec := { name := "fnExactBackDeck", fn := fun _ => fun
  | [d] => { results := [.lit (.bool false)], args := [d] }
  | _ => none }
def FnExactBackDeckWrongFalsely : Prop := fnExactBackDeckRow.holds Try.pinned (OpenSpec.ofChange fnExactBackDeckWrong)

/-- 'laws.FnExactRisingRuns': WHATEVER THE INPUT: true; the input reads as it did. -/
def fnExactRisingRunsSpec : ChangeSpec := { name := "fnExactRisingRuns", fn := fun _ => fun
  | [d] => { results := [.lit (.bool true)], args := [d] }
  | _ => none }
def fnExactRisingRunsRow : OpenClaim := { program := "ytbihcffedlfobaa", sum := "f74d1ad7c60acb31b39420b4058bbb2d4e3874d232cf61612acd448ef7aca64e", func := "loop.example/g01401/laws.FnExactRisingRuns", spec := "fnExactRisingRuns", apart := false }
def FnExactRisingRunsSaid : Prop := fnExactRisingRunsRow.holds Try.pinned (OpenSpec.ofChange fnExactRisingRunsSpec)

/-- ITS FALSE NEIGHBOUR: 'it returns false'. Refute it at one input. -/
def fnExactRisingRunsWrong : ChangeSpec := { name := "fnExactRisingRuns", fn := fun _ => fun
  | [d] => { results := [.lit (.bool false)], args := [d] }
  | _ => none }
def FnExactRisingRunsWrongFalsely : Prop := fnExactRisingRunsRow.holds Try.pinned (OpenSpec.ofChange fnExactRisingRunsWrong)

/-- 'laws.FnExactTurnDeck': WHATEVER THE INPUT: true; the input reads as it did. -/
def fnExactTurnDeckSpec : ChangeSpec := { name := "fnExactTurnDeck", fn := fun _ => fun
  | [d] => { results := [.lit (.bool true)], args := [d] }
  | _ => none }
def fnExactTurnDeckRow : OpenClaim := { program := "ytbihcffedlfobaa", sum := "f74d1ad7c60acb31b39420b4058bbb2d4e3874d232cf61612acd448ef7aca64e", func := "loop.example/g01401/laws.FnExactTurnDeck", spec := "fnExactTurnDeck", apart := false }
def FnExactTurnDeckSaid : Prop := fnExactTurnDeckRow.holds Try.pinned (OpenSpec.ofChange fnExactTurnDeckSpec)

/-- ITS FALSE NEIGHBOUR: 'it returns false'. Refute it at one input. -/
def fnExactTurnDeckWrong : ChangeSpec := { name := "fnExactTurnDeck", fn := fun _ => fun
  | [d] => { results := [.lit (.bool false)], args := [d] }
  | _ => none }
def FnExactTurnDeckWrongFalsely : Prop := fnExactTurnDeckRow.holds Try.pinned (OpenSpec.ofChange fnExactTurnDeckWrong)

/-- 'laws.FnExactCutDeck': WHATEVER THE INPUT: true; the input reads as it did. -/
def fnExactCutDeckSpec : ChangeSpec := { name := "fnExactCutDeck", fn := fun _ => fun
  | [d1, d2] => { results := [.lit (.bool true)], args := [d1, d2] }
  | _ => none }
def fnExactCutDeckRow : OpenClaim := { program := "ytbihcffedlfobaa", sum := "f74d1ad7c60acb31b39420b4058bbb2d4e3874d232cf61612acd448ef7aca64e", func := "loop.example/g01401/laws.FnExactCutDeck", spec := "fnExactCutDeck", apart := false }
def FnExactCutDeckSaid : Prop := fnExactCutDeckRow.holds Try.pinned (OpenSpec.ofChange fnExactCutDeckSpec)

/-- ITS FALSE NEIGHBOUR: 'it returns false'. Refute it at one input. -/
def fnExactCutDeckWrong : ChangeSpec := { name := "fnExactCutDeck", fn := fun _ => fun
  | [d1, d2] => { results := [.lit (.bool false)], args := [d1, d2] }
  | _ => none }
def FnExactCutDeckWrongFalsely : Prop := fnExactCutDeckRow.holds Try.pinned (OpenSpec.ofChange fnExactCutDeckWrong)

/-- 'laws.FnExactPerfectShuffle': WHATEVER THE INPUT: true; the input reads as it did. -/
def fnExactPerfectShuffleSpec : ChangeSpec := { name := "fnExactPerfectShuffle", fn := fun _ => fun
  | [d1, d2] => { results := [.lit (.bool true)], args := [d1, d2] }
  | _ => none }
def fnExactPerfectShuffleRow : OpenClaim := { program := "ytbihcffedlfobaa", sum := "f74d1ad7c60acb31b39420b4058bbb2d4e3874d232cf61612acd448ef7aca64e", func := "loop.example/g01401/laws.FnExactPerfectShuffle", spec := "fnExactPerfectShuffle", apart := false }
def FnExactPerfectShuffleSaid : Prop := fnExactPerfectShuffleRow.holds Try.pinned (OpenSpec.ofChange fnExactPerfectShuffleSpec)

/-- ITS FALSE NEIGHBOUR: 'it returns false'. Refute it at one input. -/
def fnExactPerfectShuffleWrong : ChangeSpec := { name := "fnExactPerfectShuffle", fn := fun _ => fun
  | [d1, d2] => { results := [.lit (.bool false)], args := [d1, d2] }
  | _ => none }
def FnExactPerfectShuffleWrongFalsely : Prop := fnExactPerfectShuffleRow.holds Try.pinned (OpenSpec.ofChange fnExactPerfectShuffleWrong)

/-- 'laws.FnExactShuffleOrder': WHATEVER THE INPUT: true; the input reads as it did. -/
def fnExactShuffleOrderSpec : ChangeSpec := { name := "fnExactShuffleOrder", fn := fun _ => fun
  | [d1, d2] => { results := [.lit (.bool true)], args := [d1, d2] }
  | _ => none }
def fnExactShuffleOrderRow : OpenClaim := { program := "ytbihcffedlfobaa", sum := "f74d1ad7c60acb31b39420b4058bbb2d4e3874d232cf61612acd448ef7aca64e", func := "loop.example/g01401/laws.FnExactShuffleOrder", spec := "fnExactShuffleOrder", apart := false }
def FnExactShuffleOrderSaid : Prop := fnExactShuffleOrderRow.holds Try.pinned (OpenSpec.ofChange fnExactShuffleOrderSpec)

/-- ITS FALSE NEIGHBOUR: 'it returns false'. Refute it at one input. -/
def fnExactShuffleOrderWrong : ChangeSpec := { name := "fnExactShuffleOrder", fn := fun _ => fun
  | [d1, d2] => { results := [.lit (.bool false)], args := [d1, d2] }
  | _ => none }
def FnExactShuffleOrderWrongFalsely : Prop := fnExactShuffleOrderRow.holds Try.pinned (OpenSpec.ofChange fnExactShuffleOrderWrong)

/-- 'laws.FnExactRankOf': WHATEVER THE INPUT: true; the input reads as it did. -/
def fnExactRankOfSpec : ChangeSpec := { name := "fnExactRankOf", fn := fun _ => fun
  | [d] => { results := [.lit (.bool true)], args := [d] }
  | _ => none }
def fnExactRankOfRow : OpenClaim := { program := "ytbihcffedlfobaa", sum := "f74d1ad7c60acb31b39420b4058bbb2d4e3874d232cf61612acd448ef7aca64e", func := "loop.example/g01401/laws.FnExactRankOf", spec := "fnExactRankOf", apart := false }
def FnExactRankOfSaid : Prop := fnExactRankOfRow.holds Try.pinned (OpenSpec.ofChange fnExactRankOfSpec)

/-- ITS FALSE NEIGHBOUR: 'it returns false'. Refute it at one input. -/
def fnExactRankOfWrong : ChangeSpec := { name := "fnExactRankOf", fn := fun _ => fun
  | [d] => { results := [.lit (.bool false)], args := [d] }
  | _ => none }
def FnExactRankOfWrongFalsely : Prop := fnExactRankOfRow.holds Try.pinned (OpenSpec.ofChange fnExactRankOfWrong)

/-- 'laws.FnExactDeckOfRank': WHATEVER THE INPUT: true; the input reads as it did. -/
def fnExactDeckOfRankSpec : ChangeSpec := { name := "fnExactDeckOfRank", fn := fun _ => fun
  | [d1, d2] => { results := [.lit (.bool true)], args := [d1, d2] }
  | _ => none }
def fnExactDeckOfRankRow : OpenClaim := { program := "ytbihcffedlfobaa", sum := "f74d1ad7c60acb31b39420b4058bbb2d4e3874d232cf61612acd448ef7aca64e", func := "loop.example/g01401/laws.FnExactDeckOfRank", spec := "fnExactDeckOfRank", apart := false }
def FnExactDeckOfRankSaid : Prop := fnExactDeckOfRankRow.holds Try.pinned (OpenSpec.ofChange fnExactDeckOfRankSpec)

/-- ITS FALSE NEIGHBOUR: 'it returns false'. Refute it at one input. -/
def fnExactDeckOfRankWrong : ChangeSpec := { name := "fnExactDeckOfRank", fn := fun _ => fun
  | [d1, d2] => { results := [.lit (.bool false)], args := [d1, d2] }
  | _ => none }
def FnExactDeckOfRankWrongFalsely : Prop := fnExactDeckOfRankRow.holds Try.pinned (OpenSpec.ofChange fnExactDeckOfRankWrong)

/-- 'laws.FnExactDecksShared': WHATEVER THE INPUT: true; the input reads as it did. -/
def fnExactDecksSharedSpec : ChangeSpec := { name := "fnExactDecksShared", fn := fun _ => fun
  | [d1, d2, d3] => { results := [.lit (.bool true)], args := [d1, d2, d3] }
  | _ => none }
def fnExactDecksSharedRow : OpenClaim := { program := "ytbihcffedlfobaa", sum := "f74d1ad7c60acb31b39420b4058bbb2d4e3874d232cf61612acd448ef7aca64e", func := "loop.example/g01401/laws.FnExactDecksShared", spec := "fnExactDecksShared", apart := false }
def FnExactDecksSharedSaid : Prop := fnExactDecksSharedRow.holds Try.pinned (OpenSpec.ofChange fnExactDecksSharedSpec)

/-- ITS FALSE NEIGHBOUR: 'it returns false'. Refute it at one input. -/
def fnExactDecksSharedWrong : ChangeSpec := { name := "fnExactDecksShared", fn := fun _ => fun
  | [d1, d2, d3] => { results := [.lit (.bool false)], args := [d1, d2, d3] }
  | _ => none }
def FnExactDecksSharedWrongFalsely : Prop := fnExactDecksSharedRow.holds Try.pinned (OpenSpec.ofChange fnExactDecksSharedWrong)

/- THE SECOND FORM. 'bulk': how many values and letters a reading holds, each counted each time it is reached (what is shared counts as often as it is met; a slice's spare places count too). A statement '..UptoSaid' is the law's where the arguments, and the package variables that the reading takes, are together of bulk at most 1048576: NARROWER than '..Said'. Prove '..Said' where nothing that the law and all that it calls make is longer than what came in: it says more and counts as full. Else prove '..UptoSaid'. A law counts once. -/
mutual
def uptoBulk {H : Type} : DataW H → Nat
  | .lit (.string bytes) => bytes.length + 1
  | .lit _ => 1
  | .nil => 1
  | .ptr d => uptoBulk d + 1
  | .slice elems spare => uptoBulkAll elems + uptoBulkAll spare + 1
  | .agg parts => uptoBulkAll parts + 1
  | .iface _ d => uptoBulk d + 1
  | .map entries => uptoBulkEntries entries + 1
  | .held _ => 1
def uptoBulkAll {H : Type} : List (DataW H) → Nat
  | [] => 0
  | d :: r => uptoBulk d + uptoBulkAll r
def uptoBulkEntries {H : Type} : List (Lit × DataW H) → Nat
  | [] => 0
  | x :: r => uptoBulkEntry x + uptoBulkEntries r
def uptoBulkEntry {H : Type} : Lit × DataW H → Nat
  | (.string bytes, d) => bytes.length + uptoBulk d + 1
  | (_, d) => uptoBulk d + 1
 end
def uptoSmall : (H : Type) → List (DataW H) → Bool := fun _ ds => decide (uptoBulkAll ds ≤ 1048576)
def OpenSpec.upto (s : _root_.Go.ChangeSpec) : _root_.Go.OpenSpec := { _root_.Go.OpenSpec.ofChange s with cond := some uptoSmall }

/-- 'laws.FnExactDrawDeck', WHERE WHAT IT READS IS OF BULK AT MOST 1048576: true; the input reads as it did. -/
def fnExactDrawDeckUptoRow : OpenClaim := { program := "ytbihcffedlfobaa", sum := "f74d1ad7c60acb31b39420b4058bbb2d4e3874d232cf61612acd448ef7aca64e", func := "loop.example/g01401/laws.FnExactDrawDeck", spec := "fnExactDrawDeck", apart := false, narrowed := true }
def FnExactDrawDeckUptoSaid : Prop := fnExactDrawDeckUptoRow.holds Try.pinned (OpenSpec.upto fnExactDrawDeckSpec)

/-- 'laws.FnExactDescentsOf', WHERE WHAT IT READS IS OF BULK AT MOST 1048576: true; the input reads as it did. -/
def fnExactDescentsOfUptoRow : OpenClaim := { program := "ytbihcffedlfobaa", sum := "f74d1ad7c60acb31b39420b4058bbb2d4e3874d232cf61612acd448ef7aca64e", func := "loop.example/g01401/laws.FnExactDescentsOf", spec := "fnExactDescentsOf", apart := false, narrowed := true }
def FnExactDescentsOfUptoSaid : Prop := fnExactDescentsOfUptoRow.holds Try.pinned (OpenSpec.upto fnExactDescentsOfSpec)

/-- 'laws.FnExactJoinDecks', WHERE WHAT IT READS IS OF BULK AT MOST 1048576: true; the input reads as it did. -/
def fnExactJoinDecksUptoRow : OpenClaim := { program := "ytbihcffedlfobaa", sum := "f74d1ad7c60acb31b39420b4058bbb2d4e3874d232cf61612acd448ef7aca64e", func := "loop.example/g01401/laws.FnExactJoinDecks", spec := "fnExactJoinDecks", apart := false, narrowed := true }
def FnExactJoinDecksUptoSaid : Prop := fnExactJoinDecksUptoRow.holds Try.pinned (OpenSpec.upto fnExactJoinDecksSpec)

/-- 'laws.FnExactBackDeck', WHERE WHAT IT READS IS OF BULK AT MOST 1048576: true; the input reads as it did. -/
def fnExactBackDeckUptoRow : OpenClaim := { program := "ytbihcffedlfobaa", sum := "f74d1ad7c60acb31b39420b4058bbb2d4e3874d232cf61612acd448ef7aca64e", func := "loop.example/g01401/laws.FnExactBackDeck", spec := "fnExactBackDeck", apart := false, narrowed := true }
def FnExactBackDeckUptoSaid : Prop := fnExactBackDeckUptoRow.holds Try.pinned (OpenSpec.upto fnExactBackDeckSpec)

/-- 'laws.FnExactRisingRuns', WHERE WHAT IT READS IS OF BULK AT MOST 1048576: true; the input reads as it did. -/
def fnExactRisingRunsUptoRow : OpenClaim := { program := "ytbihcffedlfobaa", sum := "f74d1ad7c60acb31b39420b4058bbb2d4e3874d232cf61612acd448ef7aca64e", func := "loop.example/g01401/laws.FnExactRisingRuns", spec := "fnExactRisingRuns", apart := false, narrowed := true }
def FnExactRisingRunsUptoSaid : Prop := fnExactRisingRunsUptoRow.holds Try.pinned (OpenSpec.upto fnExactRisingRunsSpec)

/-- 'laws.FnExactTurnDeck', WHERE WHAT IT READS IS OF BULK AT MOST 1048576: true; the input reads as it did. -/
def fnExactTurnDeckUptoRow : OpenClaim := { program := "ytbihcffedlfobaa", sum := "f74d1ad7c60acb31b39420b4058bbb2d4e3874d232cf61612acd448ef7aca64e", func := "loop.example/g01401/laws.FnExactTurnDeck", spec := "fnExactTurnDeck", apart := false, narrowed := true }
def FnExactTurnDeckUptoSaid : Prop := fnExactTurnDeckUptoRow.holds Try.pinned (OpenSpec.upto fnExactTurnDeckSpec)

/-- 'laws.FnExactCutDeck', WHERE WHAT IT READS IS OF BULK AT MOST 1048576: true; the input reads as it did. -/
def fnExactCutDeckUptoRow : OpenClaim := { program := "ytbihcffedlfobaa", sum := "f74d1ad7c60acb31b39420b4058bbb2d4e3874d232cf61612acd448ef7aca64e", func := "loop.example/g01401/laws.FnExactCutDeck", spec := "fnExactCutDeck", apart := false, narrowed := true }
def FnExactCutDeckUptoSaid : Prop := fnExactCutDeckUptoRow.holds Try.pinned (OpenSpec.upto fnExactCutDeckSpec)

/-- 'laws.FnExactPerfectShuffle', WHERE WHAT IT READS IS OF BULK AT MOST 1048576: true; the input reads as it did. -/
def fnExactPerfectShuffleUptoRow : OpenClaim := { program := "ytbihcffedlfobaa", sum := "f74d1ad7c60acb31b39420b4058bbb2d4e3874d232cf61612acd448ef7aca64e", func := "loop.example/g01401/laws.FnExactPerfectShuffle", spec := "fnExactPerfectShuffle", apart := false, narrowed := true }
def FnExactPerfectShuffleUptoSaid : Prop := fnExactPerfectShuffleUptoRow.holds Try.pinned (OpenSpec.upto fnExactPerfectShuffleSpec)

/-- 'laws.FnExactShuffleOrder', WHERE WHAT IT READS IS OF BULK AT MOST 1048576: true; the input reads as it did. -/
def fnExactShuffleOrderUptoRow : OpenClaim := { program := "ytbihcffedlfobaa", sum := "f74d1ad7c60acb31b39420b4058bbb2d4e3874d232cf61612acd448ef7aca64e", func := "loop.example/g01401/laws.FnExactShuffleOrder", spec := "fnExactShuffleOrder", apart := false, narrowed := true }
def FnExactShuffleOrderUptoSaid : Prop := fnExactShuffleOrderUptoRow.holds Try.pinned (OpenSpec.upto fnExactShuffleOrderSpec)

/-- 'laws.FnExactRankOf', WHERE WHAT IT READS IS OF BULK AT MOST 1048576: true; the input reads as it did. -/
def fnExactRankOfUptoRow : OpenClaim := { program := "ytbihcffedlfobaa", sum := "f74d1ad7c60acb31b39420b4058bbb2d4e3874d232cf61612acd448ef7aca64e", func := "loop.example/g01401/laws.FnExactRankOf", spec := "fnExactRankOf", apart := false, narrowed := true }
def FnExactRankOfUptoSaid : Prop := fnExactRankOfUptoRow.holds Try.pinned (OpenSpec.upto fnExactRankOfSpec)

/-- 'laws.FnExactDeckOfRank', WHERE WHAT IT READS IS OF BULK AT MOST 1048576: true; the input reads as it did. -/
def fnExactDeckOfRankUptoRow : OpenClaim := { program := "ytbihcffedlfobaa", sum := "f74d1ad7c60acb31b39420b4058bbb2d4e3874d232cf61612acd448ef7aca64e", func := "loop.example/g01401/laws.FnExactDeckOfRank", spec := "fnExactDeckOfRank", apart := false, narrowed := true }
def FnExactDeckOfRankUptoSaid : Prop := fnExactDeckOfRankUptoRow.holds Try.pinned (OpenSpec.upto fnExactDeckOfRankSpec)

/-- 'laws.FnExactDecksShared', WHERE WHAT IT READS IS OF BULK AT MOST 1048576: true; the input reads as it did. -/
def fnExactDecksSharedUptoRow : OpenClaim := { program := "ytbihcffedlfobaa", sum := "f74d1ad7c60acb31b39420b4058bbb2d4e3874d232cf61612acd448ef7aca64e", func := "loop.example/g01401/laws.FnExactDecksShared", spec := "fnExactDecksShared", apart := false, narrowed := true }
def FnExactDecksSharedUptoSaid : Prop := fnExactDecksSharedUptoRow.holds Try.pinned (OpenSpec.upto fnExactDecksSharedSpec)

end Rows
end Go.Proofs.Ytbihcffedlfobaa
