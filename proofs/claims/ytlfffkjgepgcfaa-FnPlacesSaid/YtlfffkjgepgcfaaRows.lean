/-
  No cell of these rows narrows 'for every input' (looked for: loops, veiled, ifaces, maps, wideKeys, modest, calm, conditions, laid).
  DERIVED. THE GIVEN ROWS OF THIS SEAT. 11 by the template 'for every input the law returns true; each argument reads behind the call as it read before'; 0 by the template 'total and deterministic' (their statements: YtlfffkjgepgcfaaTotals.lean).
  GIVEN WITH THE SEED: the statements are not yours to turn. If you find one false, say at which input.
  Laid BY PROGRAM, IN A SANDBOX (cutbox-rows.mjs): the forced cells as the released guide's own fill.sh prints them over the translation 6015fb2d77b85ae4… (all of the seat's roots in one cut). By AI agents, Wed Nov 11 2026. No macro, syntax, notation, axiom, sorry.
-/
import Derived.Test.YtlfffkjgepgcfaaChecked
import GoSem.Claim
import GoSem.ClaimJoined
import GoSem.ClaimMapViews
import Derived.JoinedTies
import Derived.KernelRfl
namespace Go.Proofs.Ytlfffkjgepgcfaa
/- THE CELL 'sum', in the pinned program and in every row, IS THE sha256 OF THE DUMP (.gsa) THAT YtlfffkjgepgcfaaProg.lean LOADS. Nothing in Lean hashes anything: it is a label: what it is worth is what the hold of that sum in a sandbox is worth. -/
noncomputable def Try.pinned : Pinned := { name := "ytlfffkjgepgcfaa", sum := "6015fb2d77b85ae4e21dce3ecf3212570f5c6e1574cc4de6b3bd39c663a5afda", checked := Try.checked }
namespace Rows
def none {H : Type} : Left H := { results := [], args := [] }

/-- 'laws.FnExactBirthdayLeast': WHATEVER THE INPUT: true; the input reads as it did. -/
def fnExactBirthdayLeastSpec : ChangeSpec := { name := "fnExactBirthdayLeast", fn := fun _ => fun
  | [d] => { results := [.lit (.bool true)], args := [d] }
  | _ => none }
def fnExactBirthdayLeastRow : OpenClaim := { program := "ytlfffkjgepgcfaa", sum := "6015fb2d77b85ae4e21dce3ecf3212570f5c6e1574cc4de6b3bd39c663a5afda", func := "loop.example/g01401/laws.FnExactBirthdayLeast", spec := "fnExactBirthdayLeast", apart := false }
def FnExactBirthdayLeastSaid : Prop := fnExactBirthdayLeastRow.holds Try.pinned (OpenSpec.ofChange fnExactBirthdayLeastSpec)

/-- ITS FALSE NEIGHBOUR: 'it returns false'. Refute it at one input. -/
def fnExactBirthdayLeastWrong : ChangeSpec := { name := "fnExactBirthdayLeast", fn := fun _ => fun
  | [d] => { results := [.lit (.bool false)], args := [d] }
  | _ => none }
def FnExactBirthdayLeastWrongFalsely : Prop := fnExactBirthdayLeastRow.holds Try.pinned (OpenSpec.ofChange fnExactBirthdayLeastWrong)

/-- 'laws.FnExactCallGain': WHATEVER THE INPUT: true; the input reads as it did. -/
def fnExactCallGainSpec : ChangeSpec := { name := "fnExactCallGain", fn := fun _ => fun
  | [d1, d2, d3] => { results := [.lit (.bool true)], args := [d1, d2, d3] }
  | _ => none }
def fnExactCallGainRow : OpenClaim := { program := "ytlfffkjgepgcfaa", sum := "6015fb2d77b85ae4e21dce3ecf3212570f5c6e1574cc4de6b3bd39c663a5afda", func := "loop.example/g01401/laws.FnExactCallGain", spec := "fnExactCallGain", apart := false }
def FnExactCallGainSaid : Prop := fnExactCallGainRow.holds Try.pinned (OpenSpec.ofChange fnExactCallGainSpec)

/-- ITS FALSE NEIGHBOUR: 'it returns false'. Refute it at one input. -/
def fnExactCallGainWrong : ChangeSpec := { name := "fnExactCallGain", fn := fun _ => fun
  | [d1, d2, d3] => { results := [.lit (.bool false)], args := [d1, d2, d3] }
  | _ => none }
def FnExactCallGainWrongFalsely : Prop := fnExactCallGainRow.holds Try.pinned (OpenSpec.ofChange fnExactCallGainWrong)

/-- 'laws.FnExactGrowthShare': WHATEVER THE INPUT: true; the input reads as it did. -/
def fnExactGrowthShareSpec : ChangeSpec := { name := "fnExactGrowthShare", fn := fun _ => fun
  | [d1, d2] => { results := [.lit (.bool true)], args := [d1, d2] }
  | _ => none }
def fnExactGrowthShareRow : OpenClaim := { program := "ytlfffkjgepgcfaa", sum := "6015fb2d77b85ae4e21dce3ecf3212570f5c6e1574cc4de6b3bd39c663a5afda", func := "loop.example/g01401/laws.FnExactGrowthShare", spec := "fnExactGrowthShare", apart := false }
def FnExactGrowthShareSaid : Prop := fnExactGrowthShareRow.holds Try.pinned (OpenSpec.ofChange fnExactGrowthShareSpec)

/-- ITS FALSE NEIGHBOUR: 'it returns false'. Refute it at one input. -/
def fnExactGrowthShareWrong : ChangeSpec := { name := "fnExactGrowthShare", fn := fun _ => fun
  | [d1, d2] => { results := [.lit (.bool false)], args := [d1, d2] }
  | _ => none }
def FnExactGrowthShareWrongFalsely : Prop := fnExactGrowthShareRow.holds Try.pinned (OpenSpec.ofChange fnExactGrowthShareWrong)

/-- 'laws.FnExactGrowthAt': WHATEVER THE INPUT: true; the input reads as it did. -/
def fnExactGrowthAtSpec : ChangeSpec := { name := "fnExactGrowthAt", fn := fun _ => fun
  | [d1, d2, d3] => { results := [.lit (.bool true)], args := [d1, d2, d3] }
  | _ => none }
def fnExactGrowthAtRow : OpenClaim := { program := "ytlfffkjgepgcfaa", sum := "6015fb2d77b85ae4e21dce3ecf3212570f5c6e1574cc4de6b3bd39c663a5afda", func := "loop.example/g01401/laws.FnExactGrowthAt", spec := "fnExactGrowthAt", inPlace := ["math.Float64frombits", "math.Float64bits"], apart := false }
def FnExactGrowthAtSaid : Prop := fnExactGrowthAtRow.holds Try.pinned (OpenSpec.ofChange fnExactGrowthAtSpec)

/-- ITS FALSE NEIGHBOUR: 'it returns false'. Refute it at one input. -/
def fnExactGrowthAtWrong : ChangeSpec := { name := "fnExactGrowthAt", fn := fun _ => fun
  | [d1, d2, d3] => { results := [.lit (.bool false)], args := [d1, d2, d3] }
  | _ => none }
def FnExactGrowthAtWrongFalsely : Prop := fnExactGrowthAtRow.holds Try.pinned (OpenSpec.ofChange fnExactGrowthAtWrong)

/-- 'laws.FnExactBlindSteps': WHATEVER THE INPUT: true; the input reads as it did. -/
def fnExactBlindStepsSpec : ChangeSpec := { name := "fnExactBlindSteps", fn := fun _ => fun
  | [d1, d2, d3, d4] => { results := [.lit (.bool true)], args := [d1, d2, d3, d4] }
  | _ => none }
def fnExactBlindStepsRow : OpenClaim := { program := "ytlfffkjgepgcfaa", sum := "6015fb2d77b85ae4e21dce3ecf3212570f5c6e1574cc4de6b3bd39c663a5afda", func := "loop.example/g01401/laws.FnExactBlindSteps", spec := "fnExactBlindSteps", apart := false }
def FnExactBlindStepsSaid : Prop := fnExactBlindStepsRow.holds Try.pinned (OpenSpec.ofChange fnExactBlindStepsSpec)

/-- ITS FALSE NEIGHBOUR: 'it returns false'. Refute it at one input. -/
def fnExactBlindStepsWrong : ChangeSpec := { name := "fnExactBlindSteps", fn := fun _ => fun
  | [d1, d2, d3, d4] => { results := [.lit (.bool false)], args := [d1, d2, d3, d4] }
  | _ => none }
def FnExactBlindStepsWrongFalsely : Prop := fnExactBlindStepsRow.holds Try.pinned (OpenSpec.ofChange fnExactBlindStepsWrong)

/-- 'laws.FnExactPlaceChances': WHATEVER THE INPUT: true; the input reads as it did. -/
def fnExactPlaceChancesSpec : ChangeSpec := { name := "fnExactPlaceChances", fn := fun _ => fun
  | [d] => { results := [.lit (.bool true)], args := [d] }
  | _ => none }
def fnExactPlaceChancesRow : OpenClaim := { program := "ytlfffkjgepgcfaa", sum := "6015fb2d77b85ae4e21dce3ecf3212570f5c6e1574cc4de6b3bd39c663a5afda", func := "loop.example/g01401/laws.FnExactPlaceChances", spec := "fnExactPlaceChances", unfollowed := true, recurses := true, apart := false }
def FnExactPlaceChancesSaid : Prop := fnExactPlaceChancesRow.holds Try.pinned (OpenSpec.ofChange fnExactPlaceChancesSpec)

/-- ITS FALSE NEIGHBOUR: 'it returns false'. Refute it at one input. -/
def fnExactPlaceChancesWrong : ChangeSpec := { name := "fnExactPlaceChances", fn := fun _ => fun
  | [d] => { results := [.lit (.bool false)], args := [d] }
  | _ => none }
def FnExactPlaceChancesWrongFalsely : Prop := fnExactPlaceChancesRow.holds Try.pinned (OpenSpec.ofChange fnExactPlaceChancesWrong)

/-- 'laws.FnExactPrizeShares': WHATEVER THE INPUT: true; the input reads as it did. -/
def fnExactPrizeSharesSpec : ChangeSpec := { name := "fnExactPrizeShares", fn := fun _ => fun
  | [d1, d2] => { results := [.lit (.bool true)], args := [d1, d2] }
  | _ => none }
def fnExactPrizeSharesRow : OpenClaim := { program := "ytlfffkjgepgcfaa", sum := "6015fb2d77b85ae4e21dce3ecf3212570f5c6e1574cc4de6b3bd39c663a5afda", func := "loop.example/g01401/laws.FnExactPrizeShares", spec := "fnExactPrizeShares", unfollowed := true, recurses := true, apart := false }
def FnExactPrizeSharesSaid : Prop := fnExactPrizeSharesRow.holds Try.pinned (OpenSpec.ofChange fnExactPrizeSharesSpec)

/-- ITS FALSE NEIGHBOUR: 'it returns false'. Refute it at one input. -/
def fnExactPrizeSharesWrong : ChangeSpec := { name := "fnExactPrizeShares", fn := fun _ => fun
  | [d1, d2] => { results := [.lit (.bool false)], args := [d1, d2] }
  | _ => none }
def FnExactPrizeSharesWrongFalsely : Prop := fnExactPrizeSharesRow.holds Try.pinned (OpenSpec.ofChange fnExactPrizeSharesWrong)

/-- 'laws.FnExactSidePots': WHATEVER THE INPUT: true; the input reads as it did. -/
def fnExactSidePotsSpec : ChangeSpec := { name := "fnExactSidePots", fn := fun _ => fun
  | [d1, d2] => { results := [.lit (.bool true)], args := [d1, d2] }
  | _ => none }
def fnExactSidePotsRow : OpenClaim := { program := "ytlfffkjgepgcfaa", sum := "6015fb2d77b85ae4e21dce3ecf3212570f5c6e1574cc4de6b3bd39c663a5afda", func := "loop.example/g01401/laws.FnExactSidePots", spec := "fnExactSidePots", unfollowed := true, recurses := true, apart := false }
def FnExactSidePotsSaid : Prop := fnExactSidePotsRow.holds Try.pinned (OpenSpec.ofChange fnExactSidePotsSpec)

/-- ITS FALSE NEIGHBOUR: 'it returns false'. Refute it at one input. -/
def fnExactSidePotsWrong : ChangeSpec := { name := "fnExactSidePots", fn := fun _ => fun
  | [d1, d2] => { results := [.lit (.bool false)], args := [d1, d2] }
  | _ => none }
def FnExactSidePotsWrongFalsely : Prop := fnExactSidePotsRow.holds Try.pinned (OpenSpec.ofChange fnExactSidePotsWrong)

/-- 'laws.FnExactSharePots': WHATEVER THE INPUT: true; the input reads as it did. -/
def fnExactSharePotsSpec : ChangeSpec := { name := "fnExactSharePots", fn := fun _ => fun
  | [d1, d2, d3] => { results := [.lit (.bool true)], args := [d1, d2, d3] }
  | _ => none }
def fnExactSharePotsRow : OpenClaim := { program := "ytlfffkjgepgcfaa", sum := "6015fb2d77b85ae4e21dce3ecf3212570f5c6e1574cc4de6b3bd39c663a5afda", func := "loop.example/g01401/laws.FnExactSharePots", spec := "fnExactSharePots", unfollowed := true, recurses := true, apart := false }
def FnExactSharePotsSaid : Prop := fnExactSharePotsRow.holds Try.pinned (OpenSpec.ofChange fnExactSharePotsSpec)

/-- ITS FALSE NEIGHBOUR: 'it returns false'. Refute it at one input. -/
def fnExactSharePotsWrong : ChangeSpec := { name := "fnExactSharePots", fn := fun _ => fun
  | [d1, d2, d3] => { results := [.lit (.bool false)], args := [d1, d2, d3] }
  | _ => none }
def FnExactSharePotsWrongFalsely : Prop := fnExactSharePotsRow.holds Try.pinned (OpenSpec.ofChange fnExactSharePotsWrong)

/-- 'laws.FnPots': WHATEVER THE INPUT: true; the input reads as it did. -/
def fnPotsSpec : ChangeSpec := { name := "fnPots", fn := fun _ => fun
  | [d1, d2] => { results := [.lit (.bool true)], args := [d1, d2] }
  | _ => none }
def fnPotsRow : OpenClaim := { program := "ytlfffkjgepgcfaa", sum := "6015fb2d77b85ae4e21dce3ecf3212570f5c6e1574cc4de6b3bd39c663a5afda", func := "loop.example/g01401/laws.FnPots", spec := "fnPots", inPlace := ["math.Float64frombits"], unfollowed := true, recurses := true, apart := false }
def FnPotsSaid : Prop := fnPotsRow.holds Try.pinned (OpenSpec.ofChange fnPotsSpec)

/-- ITS FALSE NEIGHBOUR: 'it returns false'. Refute it at one input. -/
def fnPotsWrong : ChangeSpec := { name := "fnPots", fn := fun _ => fun
  | [d1, d2] => { results := [.lit (.bool false)], args := [d1, d2] }
  | _ => none }
def FnPotsWrongFalsely : Prop := fnPotsRow.holds Try.pinned (OpenSpec.ofChange fnPotsWrong)

/-- 'laws.FnPlaces': WHATEVER THE INPUT: true; the input reads as it did. -/
def fnPlacesSpec : ChangeSpec := { name := "fnPlaces", fn := fun _ => fun
  | [d1, d2] => { results := [.lit (.bool true)], args := [d1, d2] }
  | _ => none }
def fnPlacesRow : OpenClaim := { program := "ytlfffkjgepgcfaa", sum := "6015fb2d77b85ae4e21dce3ecf3212570f5c6e1574cc4de6b3bd39c663a5afda", func := "loop.example/g01401/laws.FnPlaces", spec := "fnPlaces", inPlace := ["math.Float32bits"], unfollowed := true, recurses := true, apart := false }
def FnPlacesSaid : Prop := fnPlacesRow.holds Try.pinned (OpenSpec.ofChange fnPlacesSpec)

/-- ITS FALSE NEIGHBOUR: 'it returns false'. Refute it at one input. -/
def fnPlacesWrong : ChangeSpec := { name := "fnPlaces", fn := fun _ => fun
  | [d1, d2] => { results := [.lit (.bool false)], args := [d1, d2] }
  | _ => none }
def FnPlacesWrongFalsely : Prop := fnPlacesRow.holds Try.pinned (OpenSpec.ofChange fnPlacesWrong)

/- THE SECOND FORM. 'bulk': how many values and letters a reading holds, each counted each time it is reached (what is shared counts as often as it is met; a slice's spare places count too). A statement '..UptoSaid' is the law's where the arguments, and the package variables that the reading takes, are together of bulk at most 1048576: NARROWER than '..Said'. Prove '..Said' where nothing that the law and all that it calls make is longer than what came in: it says more and counts as full. Else prove '..UptoSaid'. A law counts once. -/
mutual
def uptoBulk {H : Type} : DataW H → Nat
  | .lit (.string bytes) => bytes.length + 1
  | .lit _ => 1
  | .nil => 1
  | .ptr d => uptoBulk d + 1
  | .slice elems spare => uptoBulkAll elems + uptoBulkAll spare + 1
  | .agg parts => uptoBulkAll parts + 1
  | .iface _ d => uptoBulk d + 1
  | .map entries => uptoBulkEntries entries + 1
  | .held _ => 1
def uptoBulkAll {H : Type} : List (DataW H) → Nat
  | [] => 0
  | d :: r => uptoBulk d + uptoBulkAll r
def uptoBulkEntries {H : Type} : List (Lit × DataW H) → Nat
  | [] => 0
  | x :: r => uptoBulkEntry x + uptoBulkEntries r
def uptoBulkEntry {H : Type} : Lit × DataW H → Nat
  | (.string bytes, d) => bytes.length + uptoBulk d + 1
  | (_, d) => uptoBulk d + 1
 end
def uptoSmall : (H : Type) → List (DataW H) → Bool := fun _ ds => decide (uptoBulkAll ds ≤ 1048576)
def OpenSpec.upto (s : _root_.Go.ChangeSpec) : _root_.Go.OpenSpec := { _root_.Go.OpenSpec.ofChange s with cond := some uptoSmall }

/-- 'laws.FnExactBirthdayLeast', WHERE WHAT IT READS IS OF BULK AT MOST 1048576: true; the input reads as it did. -/
def fnExactBirthdayLeastUptoRow : OpenClaim := { program := "ytlfffkjgepgcfaa", sum := "6015fb2d77b85ae4e21dce3ecf3212570f5c6e1574cc4de6b3bd39c663a5afda", func := "loop.example/g01401/laws.FnExactBirthdayLeast", spec := "fnExactBirthdayLeast", apart := false, narrowed := true }
def FnExactBirthdayLeastUptoSaid : Prop := fnExactBirthdayLeastUptoRow.holds Try.pinned (OpenSpec.upto fnExactBirthdayLeastSpec)

/-- 'laws.FnExactCallGain', WHERE WHAT IT READS IS OF BULK AT MOST 1048576: true; the input reads as it did. -/
def fnExactCallGainUptoRow : OpenClaim := { program := "ytlfffkjgepgcfaa", sum := "6015fb2d77b85ae4e21dce3ecf3212570f5c6e1574cc4de6b3bd39c663a5afda", func := "loop.example/g01401/laws.FnExactCallGain", spec := "fnExactCallGain", apart := false, narrowed := true }
def FnExactCallGainUptoSaid : Prop := fnExactCallGainUptoRow.holds Try.pinned (OpenSpec.upto fnExactCallGainSpec)

/-- 'laws.FnExactGrowthShare', WHERE WHAT IT READS IS OF BULK AT MOST 1048576: true; the input reads as it did. -/
def fnExactGrowthShareUptoRow : OpenClaim := { program := "ytlfffkjgepgcfaa", sum := "6015fb2d77b85ae4e21dce3ecf3212570f5c6e1574cc4de6b3bd39c663a5afda", func := "loop.example/g01401/laws.FnExactGrowthShare", spec := "fnExactGrowthShare", apart := false, narrowed := true }
def FnExactGrowthShareUptoSaid : Prop := fnExactGrowthShareUptoRow.holds Try.pinned (OpenSpec.upto fnExactGrowthShareSpec)

/-- 'laws.FnExactGrowthAt', WHERE WHAT IT READS IS OF BULK AT MOST 1048576: true; the input reads as it did. -/
def fnExactGrowthAtUptoRow : OpenClaim := { program := "ytlfffkjgepgcfaa", sum := "6015fb2d77b85ae4e21dce3ecf3212570f5c6e1574cc4de6b3bd39c663a5afda", func := "loop.example/g01401/laws.FnExactGrowthAt", spec := "fnExactGrowthAt", inPlace := ["math.Float64frombits", "math.Float64bits"], apart := false, narrowed := true }
def FnExactGrowthAtUptoSaid : Prop := fnExactGrowthAtUptoRow.holds Try.pinned (OpenSpec.upto fnExactGrowthAtSpec)

/-- 'laws.FnExactBlindSteps', WHERE WHAT IT READS IS OF BULK AT MOST 1048576: true; the input reads as it did. -/
def fnExactBlindStepsUptoRow : OpenClaim := { program := "ytlfffkjgepgcfaa", sum := "6015fb2d77b85ae4e21dce3ecf3212570f5c6e1574cc4de6b3bd39c663a5afda", func := "loop.example/g01401/laws.FnExactBlindSteps", spec := "fnExactBlindSteps", apart := false, narrowed := true }
def FnExactBlindStepsUptoSaid : Prop := fnExactBlindStepsUptoRow.holds Try.pinned (OpenSpec.upto fnExactBlindStepsSpec)

/-- 'laws.FnExactPlaceChances', WHERE WHAT IT READS IS OF BULK AT MOST 1048576: true; the input reads as it did. -/
def fnExactPlaceChancesUptoRow : OpenClaim := { program := "ytlfffkjgepgcfaa", sum := "6015fb2d77b85ae4e21dce3ecf3212570f5c6e1574cc4de6b3bd39c663a5afda", func := "loop.example/g01401/laws.FnExactPlaceChances", spec := "fnExactPlaceChances", unfollowed := true, recurses := true, apart := false, narrowed := true }
def FnExactPlaceChancesUptoSaid : Prop := fnExactPlaceChancesUptoRow.holds Try.pinned (OpenSpec.upto fnExactPlaceChancesSpec)

/-- 'laws.FnExactPrizeShares', WHERE WHAT IT READS IS OF BULK AT MOST 1048576: true; the input reads as it did. -/
def fnExactPrizeSharesUptoRow : OpenClaim := { program := "ytlfffkjgepgcfaa", sum := "6015fb2d77b85ae4e21dce3ecf3212570f5c6e1574cc4de6b3bd39c663a5afda", func := "loop.example/g01401/laws.FnExactPrizeShares", spec := "fnExactPrizeShares", unfollowed := true, recurses := true, apart := false, narrowed := true }
def FnExactPrizeSharesUptoSaid : Prop := fnExactPrizeSharesUptoRow.holds Try.pinned (OpenSpec.upto fnExactPrizeSharesSpec)

/-- 'laws.FnExactSidePots', WHERE WHAT IT READS IS OF BULK AT MOST 1048576: true; the input reads as it did. -/
def fnExactSidePotsUptoRow : OpenClaim := { program := "ytlfffkjgepgcfaa", sum := "6015fb2d77b85ae4e21dce3ecf3212570f5c6e1574cc4de6b3bd39c663a5afda", func := "loop.example/g01401/laws.FnExactSidePots", spec := "fnExactSidePots", unfollowed := true, recurses := true, apart := false, narrowed := true }
def FnExactSidePotsUptoSaid : Prop := fnExactSidePotsUptoRow.holds Try.pinned (OpenSpec.upto fnExactSidePotsSpec)

/-- 'laws.FnExactSharePots', WHERE WHAT IT READS IS OF BULK AT MOST 1048576: true; the input reads as it did. -/
def fnExactSharePotsUptoRow : OpenClaim := { program := "ytlfffkjgepgcfaa", sum := "6015fb2d77b85ae4e21dce3ecf3212570f5c6e1574cc4de6b3bd39c663a5afda", func := "loop.example/g01401/laws.FnExactSharePots", spec := "fnExactSharePots", unfollowed := true, recurses := true, apart := false, narrowed := true }
def FnExactSharePotsUptoSaid : Prop := fnExactSharePotsUptoRow.holds Try.pinned (OpenSpec.upto fnExactSharePotsSpec)

/-- 'laws.FnPots', WHERE WHAT IT READS IS OF BULK AT MOST 1048576: true; the input reads as it did. -/
def fnPotsUptoRow : OpenClaim := { program := "ytlfffkjgepgcfaa", sum := "6015fb2d77b85ae4e21dce3ecf3212570f5c6e1574cc4de6b3bd39c663a5afda", func := "loop.example/g01401/laws.FnPots", spec := "fnPots", inPlace := ["math.Float64frombits"], unfollowed := true, recurses := true, apart := false, narrowed := true }
def FnPotsUptoSaid : Prop := fnPotsUptoRow.holds Try.pinned (OpenSpec.upto fnPotsSpec)

/-- 'laws.FnPlaces', WHERE WHAT IT READS IS OF BULK AT MOST 1048576: true; the input reads as it did. -/
def fnPlacesUptoRow : OpenClaim := { program := "ytlfffkjgepgcfaa", sum := "6015fb2d77b85ae4e21dce3ecf3212570f5c6e1574cc4de6b3bd39c663a5afda", func := "loop.example/g01401/laws.FnPlaces", spec := "fnPlaces", inPlace := ["math.Float32bits"], unfollowed := true, recurses := true, apart := false, narrowed := true }
def FnPlacesUptoSaid : Prop := fnPlacesUptoRow.holds Try.pinned (OpenSpec.upto fnPlacesSpec)

end Rows
end Go.Proofs.Ytlfffkjgepgcfaa
