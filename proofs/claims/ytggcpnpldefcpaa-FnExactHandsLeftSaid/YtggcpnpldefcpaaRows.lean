/-
  No cell of these rows narrows 'for every input' (looked for: loops, veiled, ifaces, maps, wideKeys, modest, calm, conditions, laid).
  DERIVED. THE GIVEN ROWS OF THIS SEAT. 6 by the template 'for every input the law returns true; each argument reads behind the call as it read before'; 0 by the template 'total and deterministic' (their statements: YtggcpnpldefcpaaTotals.lean).
  GIVEN WITH THE SEED: the statements are not yours to turn. If you find one false, say at which input.
  Laid BY PROGRAM, IN A SANDBOX (cutbox-rows.mjs): the forced cells as the released guide's own fill.sh prints them over the translation f51972e287275eac… (all of the seat's roots in one cut). By AI agents, Wed Nov 11 2026. No macro, syntax, notation, axiom, sorry.
-/
import Derived.Test.YtggcpnpldefcpaaChecked
import GoSem.Claim
import GoSem.ClaimJoined
import GoSem.ClaimMapViews
import Derived.JoinedTies
import Derived.KernelRfl
namespace Go.Proofs.Ytggcpnpldefcpaa
/- THE CELL 'sum', in the pinned program and in every row, IS THE sha256 OF THE DUMP (.gsa) THAT YtggcpnpldefcpaaProg.lean LOADS. Nothing in Lean hashes anything: it is a label: what it is worth is what the hold of that sum in a sandbox is worth. -/
noncomputable def Try.pinned : Pinned := { name := "ytggcpnpldefcpaa", sum := "f51972e287275eac1edf0330bac73856c4239362e7e1486de8d9a4f28fbac356", checked := Try.checked }
namespace Rows
def none {H : Type} : Left H := { results := [], args := [] }

/-- 'laws.FnExactFairTime': WHATEVER THE INPUT: true; the input reads as it did. -/
def fnExactFairTimeSpec : ChangeSpec := { name := "fnExactFairTime", fn := fun _ => fun
  | [d1, d2] => { results := [.lit (.bool true)], args := [d1, d2] }
  | _ => none }
def fnExactFairTimeRow : OpenClaim := { program := "ytggcpnpldefcpaa", sum := "f51972e287275eac1edf0330bac73856c4239362e7e1486de8d9a4f28fbac356", func := "loop.example/g01401/laws.FnExactFairTime", spec := "fnExactFairTime", apart := false }
def FnExactFairTimeSaid : Prop := fnExactFairTimeRow.holds Try.pinned (OpenSpec.ofChange fnExactFairTimeSpec)

/-- ITS FALSE NEIGHBOUR: 'it returns false'. Refute it at one input. -/
def fnExactFairTimeWrong : ChangeSpec := { name := "fnExactFairTime", fn := fun _ => fun
  | [d1, d2] => { results := [.lit (.bool false)], args := [d1, d2] }
  | _ => none }
def FnExactFairTimeWrongFalsely : Prop := fnExactFairTimeRow.holds Try.pinned (OpenSpec.ofChange fnExactFairTimeWrong)

/-- 'laws.FnExactBirthdayLeast': WHATEVER THE INPUT: true; the input reads as it did. -/
def fnExactBirthdayLeastSpec : ChangeSpec := { name := "fnExactBirthdayLeast", fn := fun _ => fun
  | [d] => { results := [.lit (.bool true)], args := [d] }
  | _ => none }
def fnExactBirthdayLeastRow : OpenClaim := { program := "ytggcpnpldefcpaa", sum := "f51972e287275eac1edf0330bac73856c4239362e7e1486de8d9a4f28fbac356", func := "loop.example/g01401/laws.FnExactBirthdayLeast", spec := "fnExactBirthdayLeast", apart := false }
def FnExactBirthdayLeastSaid : Prop := fnExactBirthdayLeastRow.holds Try.pinned (OpenSpec.ofChange fnExactBirthdayLeastSpec)

/-- ITS FALSE NEIGHBOUR: 'it returns false'. Refute it at one input. -/
def fnExactBirthdayLeastWrong : ChangeSpec := { name := "fnExactBirthdayLeast", fn := fun _ => fun
  | [d] => { results := [.lit (.bool false)], args := [d] }
  | _ => none }
def FnExactBirthdayLeastWrongFalsely : Prop := fnExactBirthdayLeastRow.holds Try.pinned (OpenSpec.ofChange fnExactBirthdayLeastWrong)

/-- 'laws.FnExactCallGain': WHATEVER THE INPUT: true; the input reads as it did. -/
def fnExactCallGainSpec : ChangeSpec := { name := "fnExactCallGain", fn := fun _ => fun
  | [d1, d2, d3] => { results := [.lit (.bool true)], args := [d1, d2, d3] }
  | _ => none }
def fnExactCallGainRow : OpenClaim := { program := "ytggcpnpldefcpaa", sum := "f51972e287275eac1edf0330bac73856c4239362e7e1486de8d9a4f28fbac356", func := "loop.example/g01401/laws.FnExactCallGain", spec := "fnExactCallGain", apart := false }
def FnExactCallGainSaid : Prop := fnExactCallGainRow.holds Try.pinned (OpenSpec.ofChange fnExactCallGainSpec)

/-- ITS FALSE NEIGHBOUR: 'it returns false'. Refute it at one input. -/
def fnExactCallGainWrong : ChangeSpec := { name := "fnExactCallGain", fn := fun _ => fun
  | [d1, d2, d3] => { results := [.lit (.bool false)], args := [d1, d2, d3] }
  | _ => none }
def FnExactCallGainWrongFalsely : Prop := fnExactCallGainRow.holds Try.pinned (OpenSpec.ofChange fnExactCallGainWrong)

/-- 'laws.FnExactBluffShare': WHATEVER THE INPUT: true; the input reads as it did. -/
def fnExactBluffShareSpec : ChangeSpec := { name := "fnExactBluffShare", fn := fun _ => fun
  | [d1, d2] => { results := [.lit (.bool true)], args := [d1, d2] }
  | _ => none }
def fnExactBluffShareRow : OpenClaim := { program := "ytggcpnpldefcpaa", sum := "f51972e287275eac1edf0330bac73856c4239362e7e1486de8d9a4f28fbac356", func := "loop.example/g01401/laws.FnExactBluffShare", spec := "fnExactBluffShare", apart := false }
def FnExactBluffShareSaid : Prop := fnExactBluffShareRow.holds Try.pinned (OpenSpec.ofChange fnExactBluffShareSpec)

/-- ITS FALSE NEIGHBOUR: 'it returns false'. Refute it at one input. -/
def fnExactBluffShareWrong : ChangeSpec := { name := "fnExactBluffShare", fn := fun _ => fun
  | [d1, d2] => { results := [.lit (.bool false)], args := [d1, d2] }
  | _ => none }
def FnExactBluffShareWrongFalsely : Prop := fnExactBluffShareRow.holds Try.pinned (OpenSpec.ofChange fnExactBluffShareWrong)

/-- 'laws.FnExactCallShare': WHATEVER THE INPUT: true; the input reads as it did. -/
def fnExactCallShareSpec : ChangeSpec := { name := "fnExactCallShare", fn := fun _ => fun
  | [d1, d2] => { results := [.lit (.bool true)], args := [d1, d2] }
  | _ => none }
def fnExactCallShareRow : OpenClaim := { program := "ytggcpnpldefcpaa", sum := "f51972e287275eac1edf0330bac73856c4239362e7e1486de8d9a4f28fbac356", func := "loop.example/g01401/laws.FnExactCallShare", spec := "fnExactCallShare", apart := false }
def FnExactCallShareSaid : Prop := fnExactCallShareRow.holds Try.pinned (OpenSpec.ofChange fnExactCallShareSpec)

/-- ITS FALSE NEIGHBOUR: 'it returns false'. Refute it at one input. -/
def fnExactCallShareWrong : ChangeSpec := { name := "fnExactCallShare", fn := fun _ => fun
  | [d1, d2] => { results := [.lit (.bool false)], args := [d1, d2] }
  | _ => none }
def FnExactCallShareWrongFalsely : Prop := fnExactCallShareRow.holds Try.pinned (OpenSpec.ofChange fnExactCallShareWrong)

/-- 'laws.FnExactHandsLeft': WHATEVER THE INPUT: true; the input reads as it did. -/
def fnExactHandsLeftSpec : ChangeSpec := { name := "fnExactHandsLeft", fn := fun _ => fun
  | [d1, d2, d3, d4, d5] => { results := [.lit (.bool true)], args := [d1, d2, d3, d4, d5] }
  | _ => none }
def fnExactHandsLeftRow : OpenClaim := { program := "ytggcpnpldefcpaa", sum := "f51972e287275eac1edf0330bac73856c4239362e7e1486de8d9a4f28fbac356", func := "loop.example/g01401/laws.FnExactHandsLeft", spec := "fnExactHandsLeft", apart := false }
def FnExactHandsLeftSaid : Prop := fnExactHandsLeftRow.holds Try.pinned (OpenSpec.ofChange fnExactHandsLeftSpec)

/-- ITS FALSE NEIGHBOUR: 'it returns false'. Refute it at one input. -/
def fnExactHandsLeftWrong : ChangeSpec := { name := "fnExactHandsLeft", fn := fun _ => fun
  | [d1, d2, d3, d4, d5] => { results := [.lit (.bool false)], args := [d1, d2, d3, d4, d5] }
  | _ => none }
def FnExactHandsLeftWrongFalsely : Prop := fnExactHandsLeftRow.holds Try.pinned (OpenSpec.ofChange fnExactHandsLeftWrong)

/- THE SECOND FORM. 'bulk': how many values and letters a reading holds, each counted each time it is reached (what is shared counts as often as it is met; a slice's spare places count too). A statement '..UptoSaid' is the law's where the arguments, and the package variables that the reading takes, are together of bulk at most 1048576: NARROWER than '..Said'. Prove '..Said' where nothing that the law and all that it calls make is longer than what came in: it says more and counts as full. Else prove '..UptoSaid'. A law counts once. -/
mutual
def uptoBulk {H : Type} : DataW H → Nat
  | .lit (.string bytes) => bytes.length + 1
  | .lit _ => 1
  | .nil => 1
  | .ptr d => uptoBulk d + 1
  | .slice elems spare => uptoBulkAll elems + uptoBulkAll spare + 1
  | .agg parts => uptoBulkAll parts + 1
  | .iface _ d => uptoBulk d + 1
  | .map entries => uptoBulkEntries entries + 1
  | .held _ => 1
def uptoBulkAll {H : Type} : List (DataW H) → Nat
  | [] => 0
  | d :: r => uptoBulk d + uptoBulkAll r
def uptoBulkEntries {H : Type} : List (Lit × DataW H) → Nat
  | [] => 0
  | x :: r => uptoBulkEntry x + uptoBulkEntries r
def uptoBulkEntry {H : Type} : Lit × DataW H → Nat
  | (.string bytes, d) => bytes.length + uptoBulk d + 1
  | (_, d) => uptoBulk d + 1
 end
def uptoSmall : (H : Type) → List (DataW H) → Bool := fun _ ds => decide (uptoBulkAll ds ≤ 1048576)
def OpenSpec.upto (s : _root_.Go.ChangeSpec) : _root_.Go.OpenSpec := { _root_.Go.OpenSpec.ofChange s with cond := some uptoSmall }

/-- 'laws.FnExactFairTime', WHERE WHAT IT READS IS OF BULK AT MOST 1048576: true; the input reads as it did. -/
def fnExactFairTimeUptoRow : OpenClaim := { program := "ytggcpnpldefcpaa", sum := "f51972e287275eac1edf0330bac73856c4239362e7e1486de8d9a4f28fbac356", func := "loop.example/g01401/laws.FnExactFairTime", spec := "fnExactFairTime", apart := false, narrowed := true }
def FnExactFairTimeUptoSaid : Prop := fnExactFairTimeUptoRow.holds Try.pinned (OpenSpec.upto fnExactFairTimeSpec)

/-- 'laws.FnExactBirthdayLeast', WHERE WHAT IT READS IS OF BULK AT MOST 1048576: true; the input reads as it did. -/
def fnExactBirthdayLeastUptoRow : OpenClaim := { program := "ytggcpnpldefcpaa", sum := "f51972e287275eac1edf0330bac73856c4239362e7e1486de8d9a4f28fbac356", func := "loop.example/g01401/laws.FnExactBirthdayLeast", spec := "fnExactBirthdayLeast", apart := false, narrowed := true }
def FnExactBirthdayLeastUptoSaid : Prop := fnExactBirthdayLeastUptoRow.holds Try.pinned (OpenSpec.upto fnExactBirthdayLeastSpec)

/-- 'laws.FnExactCallGain', WHERE WHAT IT READS IS OF BULK AT MOST 1048576: true; the input reads as it did. -/
def fnExactCallGainUptoRow : OpenClaim := { program := "ytggcpnpldefcpaa", sum := "f51972e287275eac1edf0330bac73856c4239362e7e1486de8d9a4f28fbac356", func := "loop.example/g01401/laws.FnExactCallGain", spec := "fnExactCallGain", apart := false, narrowed := true }
def FnExactCallGainUptoSaid : Prop := fnExactCallGainUptoRow.holds Try.pinned (OpenSpec.upto fnExactCallGainSpec)

/-- 'laws.FnExactBluffShare', WHERE WHAT IT READS IS OF BULK AT MOST 1048576: true; the input reads as it did. -/
def fnExactBluffShareUptoRow : OpenClaim := { program := "ytggcpnpldefcpaa", sum := "f51972e287275eac1edf0330bac73856c4239362e7e1486de8d9a4f28fbac356", func := "loop.example/g01401/laws.FnExactBluffShare", spec := "fnExactBluffShare", apart := false, narrowed := true }
def FnExactBluffShareUptoSaid : Prop := fnExactBluffShareUptoRow.holds Try.pinned (OpenSpec.upto fnExactBluffShareSpec)

/-- 'laws.FnExactCallShare', WHERE WHAT IT READS IS OF BULK AT MOST 1048576: true; the input reads as it did. -/
def fnExactCallShareUptoRow : OpenClaim := { program := "ytggcpnpldefcpaa", sum := "f51972e287275eac1edf0330bac73856c4239362e7e1486de8d9a4f28fbac356", func := "loop.example/g01401/laws.FnExactCallShare", spec := "fnExactCallShare", apart := false, narrowed := true }
def FnExactCallShareUptoSaid : Prop := fnExactCallShareUptoRow.holds Try.pinned (OpenSpec.upto fnExactCallShareSpec)

/-- 'laws.FnExactHandsLeft', WHERE WHAT IT READS IS OF BULK AT MOST 1048576: true; the input reads as it did. -/
def fnExactHandsLeftUptoRow : OpenClaim := { program := "ytggcpnpldefcpaa", sum := "f51972e287275eac1edf0330bac73856c4239362e7e1486de8d9a4f28fbac356", func := "loop.example/g01401/laws.FnExactHandsLeft", spec := "fnExactHandsLeft", apart := false, narrowed := true }
def FnExactHandsLeftUptoSaid : Prop := fnExactHandsLeftUptoRow.holds Try.pinned (OpenSpec.upto fnExactHandsLeftSpec)

end Rows
end Go.Proofs.Ytggcpnpldefcpaa
