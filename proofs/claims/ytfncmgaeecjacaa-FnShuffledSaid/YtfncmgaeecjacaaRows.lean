/-
  No cell of these rows narrows 'for every input' (looked for: loops, veiled, ifaces, maps, wideKeys, modest, calm, conditions, laid).
  DERIVED. THE GIVEN ROWS OF THIS SEAT. 12 by the template 'for every input the law returns true; each argument reads behind the call as it read before'; 0 by the template 'total and deterministic' (their statements: YtfncmgaeecjacaaTotals.lean).
  GIVEN WITH THE SEED: the statements are not yours to turn. If you find one false, say at which input.
  Laid BY PROGRAM, IN A SANDBOX (cutbox-rows.mjs): the forced cells as the released guide's own fill.sh prints them over the translation 8be7d99abb06e69e… (all of the seat's roots in one cut). By AI agents, Wed Nov 11 2026. No macro, syntax, notation, axiom, sorry.
-/
import Derived.Test.YtfncmgaeecjacaaChecked
import GoSem.Claim
import GoSem.ClaimJoined
import GoSem.ClaimMapViews
import Derived.JoinedTies
import Derived.KernelRfl
namespace Go.Proofs.Ytfncmgaeecjacaa
/- THE CELL 'sum', in the pinned program and in every row, IS THE sha256 OF THE DUMP (.gsa) THAT YtfncmgaeecjacaaProg.lean LOADS. Nothing in Lean hashes anything: it is a label: what it is worth is what the hold of that sum in a sandbox is worth. -/
noncomputable def Try.pinned : Pinned := { name := "ytfncmgaeecjacaa", sum := "8be7d99abb06e69e1df45c5ec53117155d5210e5eb41ce8bdbee98e302847420", checked := Try.checked }
namespace Rows
def none {H : Type} : Left H := { results := [], args := [] }

/-- 'laws.FnExactUnriffleBy': WHATEVER THE INPUT: true; the input reads as it did. -/
def fnExactUnriffleBySpec : ChangeSpec := { name := "fnExactUnriffleBy", fn := fun _ => fun
  | [d1, d2] => { results := [.lit (.bool true)], args := [d1, d2] }
  | _ => none }
def fnExactUnriffleByRow : OpenClaim := { program := "ytfncmgaeecjacaa", sum := "8be7d99abb06e69e1df45c5ec53117155d5210e5eb41ce8bdbee98e302847420", func := "loop.example/g01401/laws.FnExactUnriffleBy", spec := "fnExactUnriffleBy", apart := false }
def FnExactUnriffleBySaid : Prop := fnExactUnriffleByRow.holds Try.pinned (OpenSpec.ofChange fnExactUnriffleBySpec)

/-- ITS FALSE NEIGHBOUR: 'it returns false'. Refute it at one input. -/
def fnExactUnriffleByWrong : ChangeSpec := { name := "fnExactUnriffleBy", fn := fun _ => fun
  | [d1, d2] => { results := [.lit (.bool false)], args := [d1, d2] }
  | _ => none }
def FnExactUnriffleByWrongFalsely : Prop := fnExactUnriffleByRow.holds Try.pinned (OpenSpec.ofChange fnExactUnriffleByWrong)

/-- 'laws.FnExactOverhandBy': WHATEVER THE INPUT: true; the input reads as it did. -/
def fnExactOverhandBySpec : ChangeSpec := { name := "fnExactOverhandBy", fn := fun _ => fun
  | [d1, d2] => { results := [.lit (.bool true)], args := [d1, d2] }
  | _ => none }
def fnExactOverhandByRow : OpenClaim := { program := "ytfncmgaeecjacaa", sum := "8be7d99abb06e69e1df45c5ec53117155d5210e5eb41ce8bdbee98e302847420", func := "loop.example/g01401/laws.FnExactOverhandBy", spec := "fnExactOverhandBy", apart := false }
def FnExactOverhandBySaid : Prop := fnExactOverhandByRow.holds Try.pinned (OpenSpec.ofChange fnExactOverhandBySpec)

/-- ITS FALSE NEIGHBOUR: 'it returns false'. Refute it at one input. -/
def fnExactOverhandByWrong : ChangeSpec := { name := "fnExactOverhandBy", fn := fun _ => fun
  | [d1, d2] => { results := [.lit (.bool false)], args := [d1, d2] }
  | _ => none }
def FnExactOverhandByWrongFalsely : Prop := fnExactOverhandByRow.holds Try.pinned (OpenSpec.ofChange fnExactOverhandByWrong)

/-- 'laws.FnExactRiffleBy': WHATEVER THE INPUT: true; the input reads as it did. -/
def fnExactRiffleBySpec : ChangeSpec := { name := "fnExactRiffleBy", fn := fun _ => fun
  | [d1, d2] => { results := [.lit (.bool true)], args := [d1, d2] }
  | _ => none }
def fnExactRiffleByRow : OpenClaim := { program := "ytfncmgaeecjacaa", sum := "8be7d99abb06e69e1df45c5ec53117155d5210e5eb41ce8bdbee98e302847420", func := "loop.example/g01401/laws.FnExactRiffleBy", spec := "fnExactRiffleBy", apart := false }
def FnExactRiffleBySaid : Prop := fnExactRiffleByRow.holds Try.pinned (OpenSpec.ofChange fnExactRiffleBySpec)

/-- ITS FALSE NEIGHBOUR: 'it returns false'. Refute it at one input. -/
def fnExactRiffleByWrong : ChangeSpec := { name := "fnExactRiffleBy", fn := fun _ => fun
  | [d1, d2] => { results := [.lit (.bool false)], args := [d1, d2] }
  | _ => none }
def FnExactRiffleByWrongFalsely : Prop := fnExactRiffleByRow.holds Try.pinned (OpenSpec.ofChange fnExactRiffleByWrong)

/-- 'laws.FnExactMongeShuffle': WHATEVER THE INPUT: true; the input reads as it did. -/
def fnExactMongeShuffleSpec : ChangeSpec := { name := "fnExactMongeShuffle", fn := fun _ => fun
  | [d] => { results := [.lit (.bool true)], args := [d] }
  | _ => none }
def fnExactMongeShuffleRow : OpenClaim := { program := "ytfncmgaeecjacaa", sum := "8be7d99abb06e69e1df45c5ec53117155d5210e5eb41ce8bdbee98e302847420", func := "loop.example/g01401/laws.FnExactMongeShuffle", spec := "fnExactMongeShuffle", inPlace := ["slices.overlaps[int64]"], apart := false }
def FnExactMongeShuffleSaid : Prop := fnExactMongeShuffleRow.holds Try.pinned (OpenSpec.ofChange fnExactMongeShuffleSpec)

/-- ITS FALSE NEIGHBOUR: 'it returns false'. Refute it at one input. -/
def fnExactMongeShuffleWrong : ChangeSpec := { name := "fnExactMongeShuffle", fn := fun _ => fun
  | [d] => { results := [.lit (.bool false)], args := [d] }
  | _ => none }
def FnExactMongeShuffleWrongFalsely : Prop := fnExactMongeShuffleRow.holds Try.pinned (OpenSpec.ofChange fnExactMongeShuffleWrong)

/-- 'laws.FnExactDealPiles': WHATEVER THE INPUT: true; the input reads as it did. -/
def fnExactDealPilesSpec : ChangeSpec := { name := "fnExactDealPiles", fn := fun _ => fun
  | [d1, d2] => { results := [.lit (.bool true)], args := [d1, d2] }
  | _ => none }
def fnExactDealPilesRow : OpenClaim := { program := "ytfncmgaeecjacaa", sum := "8be7d99abb06e69e1df45c5ec53117155d5210e5eb41ce8bdbee98e302847420", func := "loop.example/g01401/laws.FnExactDealPiles", spec := "fnExactDealPiles", apart := false }
def FnExactDealPilesSaid : Prop := fnExactDealPilesRow.holds Try.pinned (OpenSpec.ofChange fnExactDealPilesSpec)

/-- ITS FALSE NEIGHBOUR: 'it returns false'. Refute it at one input. -/
def fnExactDealPilesWrong : ChangeSpec := { name := "fnExactDealPiles", fn := fun _ => fun
  | [d1, d2] => { results := [.lit (.bool false)], args := [d1, d2] }
  | _ => none }
def FnExactDealPilesWrongFalsely : Prop := fnExactDealPilesRow.holds Try.pinned (OpenSpec.ofChange fnExactDealPilesWrong)

/-- 'laws.FnExactGatherPiles': WHATEVER THE INPUT: true; the input reads as it did. -/
def fnExactGatherPilesSpec : ChangeSpec := { name := "fnExactGatherPiles", fn := fun _ => fun
  | [d1, d2] => { results := [.lit (.bool true)], args := [d1, d2] }
  | _ => none }
def fnExactGatherPilesRow : OpenClaim := { program := "ytfncmgaeecjacaa", sum := "8be7d99abb06e69e1df45c5ec53117155d5210e5eb41ce8bdbee98e302847420", func := "loop.example/g01401/laws.FnExactGatherPiles", spec := "fnExactGatherPiles", apart := false }
def FnExactGatherPilesSaid : Prop := fnExactGatherPilesRow.holds Try.pinned (OpenSpec.ofChange fnExactGatherPilesSpec)

/-- ITS FALSE NEIGHBOUR: 'it returns false'. Refute it at one input. -/
def fnExactGatherPilesWrong : ChangeSpec := { name := "fnExactGatherPiles", fn := fun _ => fun
  | [d1, d2] => { results := [.lit (.bool false)], args := [d1, d2] }
  | _ => none }
def FnExactGatherPilesWrongFalsely : Prop := fnExactGatherPilesRow.holds Try.pinned (OpenSpec.ofChange fnExactGatherPilesWrong)

/-- 'laws.FnExactIsPaired': WHATEVER THE INPUT: true; the input reads as it did. -/
def fnExactIsPairedSpec : ChangeSpec := { name := "fnExactIsPaired", fn := fun _ => fun
  | [d1, d2] => { results := [.lit (.bool true)], args := [d1, d2] }
  | _ => none }
def fnExactIsPairedRow : OpenClaim := { program := "ytfncmgaeecjacaa", sum := "8be7d99abb06e69e1df45c5ec53117155d5210e5eb41ce8bdbee98e302847420", func := "loop.example/g01401/laws.FnExactIsPaired", spec := "fnExactIsPaired", apart := false }
def FnExactIsPairedSaid : Prop := fnExactIsPairedRow.holds Try.pinned (OpenSpec.ofChange fnExactIsPairedSpec)

/-- ITS FALSE NEIGHBOUR: 'it returns false'. Refute it at one input. -/
def fnExactIsPairedWrong : ChangeSpec := { name := "fnExactIsPaired", fn := fun _ => fun
  | [d1, d2] => { results := [.lit (.bool false)], args := [d1, d2] }
  | _ => none }
def FnExactIsPairedWrongFalsely : Prop := fnExactIsPairedRow.holds Try.pinned (OpenSpec.ofChange fnExactIsPairedWrong)

/-- 'laws.FnExactCyclesOf': WHATEVER THE INPUT: true; the input reads as it did. -/
def fnExactCyclesOfSpec : ChangeSpec := { name := "fnExactCyclesOf", fn := fun _ => fun
  | [d] => { results := [.lit (.bool true)], args := [d] }
  | _ => none }
def fnExactCyclesOfRow : OpenClaim := { program := "ytfncmgaeecjacaa", sum := "8be7d99abb06e69e1df45c5ec53117155d5210e5eb41ce8bdbee98e302847420", func := "loop.example/g01401/laws.FnExactCyclesOf", spec := "fnExactCyclesOf", recurses := true, apart := false }
def FnExactCyclesOfSaid : Prop := fnExactCyclesOfRow.holds Try.pinned (OpenSpec.ofChange fnExactCyclesOfSpec)

/-- ITS FALSE NEIGHBOUR: 'it returns false'. Refute it at one input. -/
def fnExactCyclesOfWrong : ChangeSpec := { name := "fnExactCyclesOf", fn := fun _ => fun
  | [d] => { results := [.lit (.bool false)], args := [d] }
  | _ => none }
def FnExactCyclesOfWrongFalsely : Prop := fnExactCyclesOfRow.holds Try.pinned (OpenSpec.ofChange fnExactCyclesOfWrong)

/-- 'laws.FnExactSignOf': WHATEVER THE INPUT: true; the input reads as it did. -/
def fnExactSignOfSpec : ChangeSpec := { name := "fnExactSignOf", fn := fun _ => fun
  | [d] => { results := [.lit (.bool true)], args := [d] }
  | _ => none }
def fnExactSignOfRow : OpenClaim := { program := "ytfncmgaeecjacaa", sum := "8be7d99abb06e69e1df45c5ec53117155d5210e5eb41ce8bdbee98e302847420", func := "loop.example/g01401/laws.FnExactSignOf", spec := "fnExactSignOf", recurses := true, apart := false }
def FnExactSignOfSaid : Prop := fnExactSignOfRow.holds Try.pinned (OpenSpec.ofChange fnExactSignOfSpec)

/-- ITS FALSE NEIGHBOUR: 'it returns false'. Refute it at one input. -/
def fnExactSignOfWrong : ChangeSpec := { name := "fnExactSignOf", fn := fun _ => fun
  | [d] => { results := [.lit (.bool false)], args := [d] }
  | _ => none }
def FnExactSignOfWrongFalsely : Prop := fnExactSignOfRow.holds Try.pinned (OpenSpec.ofChange fnExactSignOfWrong)

/-- 'laws.FnExactOrderOf': WHATEVER THE INPUT: true; the input reads as it did. -/
def fnExactOrderOfSpec : ChangeSpec := { name := "fnExactOrderOf", fn := fun _ => fun
  | [d] => { results := [.lit (.bool true)], args := [d] }
  | _ => none }
def fnExactOrderOfRow : OpenClaim := { program := "ytfncmgaeecjacaa", sum := "8be7d99abb06e69e1df45c5ec53117155d5210e5eb41ce8bdbee98e302847420", func := "loop.example/g01401/laws.FnExactOrderOf", spec := "fnExactOrderOf", recurses := true, apart := false }
def FnExactOrderOfSaid : Prop := fnExactOrderOfRow.holds Try.pinned (OpenSpec.ofChange fnExactOrderOfSpec)

/-- ITS FALSE NEIGHBOUR: 'it returns false'. Refute it at one input. -/
def fnExactOrderOfWrong : ChangeSpec := { name := "fnExactOrderOf", fn := fun _ => fun
  | [d] => { results := [.lit (.bool false)], args := [d] }
  | _ => none }
def FnExactOrderOfWrongFalsely : Prop := fnExactOrderOfRow.holds Try.pinned (OpenSpec.ofChange fnExactOrderOfWrong)

/-- 'laws.FnOrders': WHATEVER THE INPUT: true; the input reads as it did. -/
def fnOrdersSpec : ChangeSpec := { name := "fnOrders", fn := fun _ => fun
  | [d1, d2] => { results := [.lit (.bool true)], args := [d1, d2] }
  | _ => none }
def fnOrdersRow : OpenClaim := { program := "ytfncmgaeecjacaa", sum := "8be7d99abb06e69e1df45c5ec53117155d5210e5eb41ce8bdbee98e302847420", func := "loop.example/g01401/laws.FnOrders", spec := "fnOrders", recurses := true, apart := false }
def FnOrdersSaid : Prop := fnOrdersRow.holds Try.pinned (OpenSpec.ofChange fnOrdersSpec)

/-- ITS FALSE NEIGHBOUR: 'it returns false'. Refute it at one input. -/
def fnOrdersWrong : ChangeSpec := { name := "fnOrders", fn := fun _ => fun
  | [d1, d2] => { results := [.lit (.bool false)], args := [d1, d2] }
  | _ => none }
def FnOrdersWrongFalsely : Prop := fnOrdersRow.holds Try.pinned (OpenSpec.ofChange fnOrdersWrong)

/-- 'laws.FnShuffled': WHATEVER THE INPUT: true; the input reads as it did. -/
def fnShuffledSpec : ChangeSpec := { name := "fnShuffled", fn := fun _ => fun
  | [d1, d2] => { results := [.lit (.bool true)], args := [d1, d2] }
  | _ => none }
def fnShuffledRow : OpenClaim := { program := "ytfncmgaeecjacaa", sum := "8be7d99abb06e69e1df45c5ec53117155d5210e5eb41ce8bdbee98e302847420", func := "loop.example/g01401/laws.FnShuffled", spec := "fnShuffled", inPlace := ["slices.overlaps[int64]"], apart := false }
def FnShuffledSaid : Prop := fnShuffledRow.holds Try.pinned (OpenSpec.ofChange fnShuffledSpec)

/-- ITS FALSE NEIGHBOUR: 'it returns false'. Refute it at one input. -/
def fnShuffledWrong : ChangeSpec := { name := "fnShuffled", fn := fun _ => fun
  | [d1, d2] => { results := [.lit (.bool false)], args := [d1, d2] }
  | _ => none }
def FnShuffledWrongFalsely : Prop := fnShuffledRow.holds Try.pinned (OpenSpec.ofChange fnShuffledWrong)

/- THE SECOND FORM. 'bulk': how many values and letters a reading holds, each counted each time it is reached (what is shared counts as often as it is met; a slice's spare places count too). A statement '..UptoSaid' is the law's where the arguments, and the package variables that the reading takes, are together of bulk at most 1048576: NARROWER than '..Said'. Prove '..Said' where nothing that the law and all that it calls make is longer than what came in: it says more and counts as full. Else prove '..UptoSaid'. A law counts once. -/
mutual
def uptoBulk {H : Type} : DataW H → Nat
  | .lit (.string bytes) => bytes.length + 1
  | .lit _ => 1
  | .nil => 1
  | .ptr d => uptoBulk d + 1
  | .slice elems spare => uptoBulkAll elems + uptoBulkAll spare + 1
  | .agg parts => uptoBulkAll parts + 1
  | .iface _ d => uptoBulk d + 1
  | .map entries => uptoBulkEntries entries + 1
  | .held _ => 1
def uptoBulkAll {H : Type} : List (DataW H) → Nat
  | [] => 0
  | d :: r => uptoBulk d + uptoBulkAll r
def uptoBulkEntries {H : Type} : List (Lit × DataW H) → Nat
  | [] => 0
  | x :: r => uptoBulkEntry x + uptoBulkEntries r
def uptoBulkEntry {H : Type} : Lit × DataW H → Nat
  | (.string bytes, d) => bytes.length + uptoBulk d + 1
  | (_, d) => uptoBulk d + 1
 end
def uptoSmall : (H : Type) → List (DataW H) → Bool := fun _ ds => decide (uptoBulkAll ds ≤ 1048576)
def OpenSpec.upto (s : _root_.Go.ChangeSpec) : _root_.Go.OpenSpec := { _root_.Go.OpenSpec.ofChange s with cond := some uptoSmall }

/-- 'laws.FnExactUnriffleBy', WHERE WHAT IT READS IS OF BULK AT MOST 1048576: true; the input reads as it did. -/
def fnExactUnriffleByUptoRow : OpenClaim := { program := "ytfncmgaeecjacaa", sum := "8be7d99abb06e69e1df45c5ec53117155d5210e5eb41ce8bdbee98e302847420", func := "loop.example/g01401/laws.FnExactUnriffleBy", spec := "fnExactUnriffleBy", apart := false, narrowed := true }
def FnExactUnriffleByUptoSaid : Prop := fnExactUnriffleByUptoRow.holds Try.pinned (OpenSpec.upto fnExactUnriffleBySpec)

/-- 'laws.FnExactOverhandBy', WHERE WHAT IT READS IS OF BULK AT MOST 1048576: true; the input reads as it did. -/
def fnExactOverhandByUptoRow : OpenClaim := { program := "ytfncmgaeecjacaa", sum := "8be7d99abb06e69e1df45c5ec53117155d5210e5eb41ce8bdbee98e302847420", func := "loop.example/g01401/laws.FnExactOverhandBy", spec := "fnExactOverhandBy", apart := false, narrowed := true }
def FnExactOverhandByUptoSaid : Prop := fnExactOverhandByUptoRow.holds Try.pinned (OpenSpec.upto fnExactOverhandBySpec)

/-- 'laws.FnExactRiffleBy', WHERE WHAT IT READS IS OF BULK AT MOST 1048576: true; the input reads as it did. -/
def fnExactRiffleByUptoRow : OpenClaim := { program := "ytfncmgaeecjacaa", sum := "8be7d99abb06e69e1df45c5ec53117155d5210e5eb41ce8bdbee98e302847420", func := "loop.example/g01401/laws.FnExactRiffleBy", spec := "fnExactRiffleBy", apart := false, narrowed := true }
def FnExactRiffleByUptoSaid : Prop := fnExactRiffleByUptoRow.holds Try.pinned (OpenSpec.upto fnExactRiffleBySpec)

/-- 'laws.FnExactMongeShuffle', WHERE WHAT IT READS IS OF BULK AT MOST 1048576: true; the input reads as it did. -/
def fnExactMongeShuffleUptoRow : OpenClaim := { program := "ytfncmgaeecjacaa", sum := "8be7d99abb06e69e1df45c5ec53117155d5210e5eb41ce8bdbee98e302847420", func := "loop.example/g01401/laws.FnExactMongeShuffle", spec := "fnExactMongeShuffle", inPlace := ["slices.overlaps[int64]"], apart := false, narrowed := true }
def FnExactMongeShuffleUptoSaid : Prop := fnExactMongeShuffleUptoRow.holds Try.pinned (OpenSpec.upto fnExactMongeShuffleSpec)

/-- 'laws.FnExactDealPiles', WHERE WHAT IT READS IS OF BULK AT MOST 1048576: true; the input reads as it did. -/
def fnExactDealPilesUptoRow : OpenClaim := { program := "ytfncmgaeecjacaa", sum := "8be7d99abb06e69e1df45c5ec53117155d5210e5eb41ce8bdbee98e302847420", func := "loop.example/g01401/laws.FnExactDealPiles", spec := "fnExactDealPiles", apart := false, narrowed := true }
def FnExactDealPilesUptoSaid : Prop := fnExactDealPilesUptoRow.holds Try.pinned (OpenSpec.upto fnExactDealPilesSpec)

/-- 'laws.FnExactGatherPiles', WHERE WHAT IT READS IS OF BULK AT MOST 1048576: true; the input reads as it did. -/
def fnExactGatherPilesUptoRow : OpenClaim := { program := "ytfncmgaeecjacaa", sum := "8be7d99abb06e69e1df45c5ec53117155d5210e5eb41ce8bdbee98e302847420", func := "loop.example/g01401/laws.FnExactGatherPiles", spec := "fnExactGatherPiles", apart := false, narrowed := true }
def FnExactGatherPilesUptoSaid : Prop := fnExactGatherPilesUptoRow.holds Try.pinned (OpenSpec.upto fnExactGatherPilesSpec)

/-- 'laws.FnExactIsPaired', WHERE WHAT IT READS IS OF BULK AT MOST 1048576: true; the input reads as it did. -/
def fnExactIsPairedUptoRow : OpenClaim := { program := "ytfncmgaeecjacaa", sum := "8be7d99abb06e69e1df45c5ec53117155d5210e5eb41ce8bdbee98e302847420", func := "loop.example/g01401/laws.FnExactIsPaired", spec := "fnExactIsPaired", apart := false, narrowed := true }
def FnExactIsPairedUptoSaid : Prop := fnExactIsPairedUptoRow.holds Try.pinned (OpenSpec.upto fnExactIsPairedSpec)

/-- 'laws.FnExactCyclesOf', WHERE WHAT IT READS IS OF BULK AT MOST 1048576: true; the input reads as it did. -/
def fnExactCyclesOfUptoRow : OpenClaim := { program := "ytfncmgaeecjacaa", sum := "8be7d99abb06e69e1df45c5ec53117155d5210e5eb41ce8bdbee98e302847420", func := "loop.example/g01401/laws.FnExactCyclesOf", spec := "fnExactCyclesOf", recurses := true, apart := false, narrowed := true }
def FnExactCyclesOfUptoSaid : Prop := fnExactCyclesOfUptoRow.holds Try.pinned (OpenSpec.upto fnExactCyclesOfSpec)

/-- 'laws.FnExactSignOf', WHERE WHAT IT READS IS OF BULK AT MOST 1048576: true; the input reads as it did. -/
def fnExactSignOfUptoRow : OpenClaim := { program := "ytfncmgaeecjacaa", sum := "8be7d99abb06e69e1df45c5ec53117155d5210e5eb41ce8bdbee98e302847420", func := "loop.example/g01401/laws.FnExactSignOf", spec := "fnExactSignOf", recurses := true, apart := false, narrowed := true }
def FnExactSignOfUptoSaid : Prop := fnExactSignOfUptoRow.holds Try.pinned (OpenSpec.upto fnExactSignOfSpec)

/-- 'laws.FnExactOrderOf', WHERE WHAT IT READS IS OF BULK AT MOST 1048576: true; the input reads as it did. -/
def fnExactOrderOfUptoRow : OpenClaim := { program := "ytfncmgaeecjacaa", sum := "8be7d99abb06e69e1df45c5ec53117155d5210e5eb41ce8bdbee98e302847420", func := "loop.example/g01401/laws.FnExactOrderOf", spec := "fnExactOrderOf", recurses := true, apart := false, narrowed := true }
def FnExactOrderOfUptoSaid : Prop := fnExactOrderOfUptoRow.holds Try.pinned (OpenSpec.upto fnExactOrderOfSpec)

/-- 'laws.FnOrders', WHERE WHAT IT READS IS OF BULK AT MOST 1048576: true; the input reads as it did. -/
def fnOrdersUptoRow : OpenClaim := { program := "ytfncmgaeecjacaa", sum := "8be7d99abb06e69e1df45c5ec53117155d5210e5eb41ce8bdbee98e302847420", func := "loop.example/g01401/laws.FnOrders", spec := "fnOrders", recurses := true, apart := false, narrowed := true }
def FnOrdersUptoSaid : Prop := fnOrdersUptoRow.holds Try.pinned (OpenSpec.upto fnOrdersSpec)

/-- 'laws.FnShuffled', WHERE WHAT IT READS IS OF BULK AT MOST 1048576: true; the input reads as it did. -/
def fnShuffledUptoRow : OpenClaim := { program := "ytfncmgaeecjacaa", sum := "8be7d99abb06e69e1df45c5ec53117155d5210e5eb41ce8bdbee98e302847420", func := "loop.example/g01401/laws.FnShuffled", spec := "fnShuffled", inPlace := ["slices.overlaps[int64]"], apart := false, narrowed := true }
def FnShuffledUptoSaid : Prop := fnShuffledUptoRow.holds Try.pinned (OpenSpec.upto fnShuffledSpec)

end Rows
end Go.Proofs.Ytfncmgaeecjacaa
