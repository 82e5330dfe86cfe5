/-
  No cell of these rows narrows 'for every input' (looked for: loops, veiled, ifaces, maps, wideKeys, modest, calm, conditions, laid).
  DERIVED. THE GIVEN ROWS OF THIS SEAT. 12 by the template 'for every input the law returns true; each argument reads behind the call as it read before'; 0 by the template 'total and deterministic' (their statements: YtnhmbncamimehaaTotals.lean).
  GIVEN WITH THE SEED: the statements are not yours to turn. If you find one false, say at which input.
  Laid BY PROGRAM, IN A SANDBOX (cutbox-rows.mjs): the forced cells as the released guide's own fill.sh prints them over the translation 37c12c888f880718… (all of the seat's roots in one cut). By AI agents, Wed Nov 11 2026. No macro, syntax, notation, axiom, sorry.
-/
import Derived.Test.YtnhmbncamimehaaChecked
import GoSem.Claim
import GoSem.ClaimJoined
import GoSem.ClaimMapViews
import Derived.JoinedTies
import Derived.KernelRfl
namespace Go.Proofs.Ytnhmbncamimehaa
/- THE CELL 'sum', in the pinned program and in every row, IS THE sha256 OF THE DUMP (.gsa) THAT YtnhmbncamimehaaProg.lean LOADS. Nothing in Lean hashes anything: it is a label: what it is worth is what the hold of that sum in a sandbox is worth. -/
noncomputable def Try.pinned : Pinned := { name := "ytnhmbncamimehaa", sum := "37c12c888f88071879a0d67af7787c58558926ed5dbdb81ec6072776370523ed", checked := Try.checked }
namespace Rows
def none {H : Type} : Left H := { results := [], args := [] }

/-- 'laws.FnExactEnvValid': WHATEVER THE INPUT: true; the input reads as it did. -/
def fnExactEnvValidSpec : ChangeSpec := { name := "fnExactEnvValid", fn := fun _ => fun
  | [d1, d2] => { results := [.lit (.bool true)], args := [d1, d2] }
  | _ => none }
def fnExactEnvValidRow : OpenClaim := { program := "ytnhmbncamimehaa", sum := "37c12c888f88071879a0d67af7787c58558926ed5dbdb81ec6072776370523ed", func := "loop.example/typedassembly/laws.FnExactEnvValid", spec := "fnExactEnvValid", recurses := true, apart := false }
def FnExactEnvValidSaid : Prop := fnExactEnvValidRow.holds Try.pinned (OpenSpec.ofChange fnExactEnvValidSpec)

/-- ITS FALSE NEIGHBOUR: 'it returns false'. Refute it at one input. -/
def fnExactEnvValidWrong : ChangeSpec := { name := "fnExactEnvValid", fn := fun _ => fun
  | [d1, d2] => { results := [.lit (.bool false)], args := [d1, d2] }
  | _ => none }
def FnExactEnvValidWrongFalsely : Prop := fnExactEnvValidRow.holds Try.pinned (OpenSpec.ofChange fnExactEnvValidWrong)

/-- 'laws.FnExactExprValid': WHATEVER THE INPUT: true; the input reads as it did. -/
def fnExactExprValidSpec : ChangeSpec := { name := "fnExactExprValid", fn := fun _ => fun
  | [d] => { results := [.lit (.bool true)], args := [d] }
  | _ => none }
def fnExactExprValidRow : OpenClaim := { program := "ytnhmbncamimehaa", sum := "37c12c888f88071879a0d67af7787c58558926ed5dbdb81ec6072776370523ed", func := "loop.example/typedassembly/laws.FnExactExprValid", spec := "fnExactExprValid", recurses := true, apart := false }
def FnExactExprValidSaid : Prop := fnExactExprValidRow.holds Try.pinned (OpenSpec.ofChange fnExactExprValidSpec)

/-- ITS FALSE NEIGHBOUR: 'it returns false'. Refute it at one input. -/
def fnExactExprValidWrong : ChangeSpec := { name := "fnExactExprValid", fn := fun _ => fun
  | [d] => { results := [.lit (.bool false)], args := [d] }
  | _ => none }
def FnExactExprValidWrongFalsely : Prop := fnExactExprValidRow.holds Try.pinned (OpenSpec.ofChange fnExactExprValidWrong)

/-- 'laws.FnExactExprHead': WHATEVER THE INPUT: true; the input reads as it did. -/
def fnExactExprHeadSpec : ChangeSpec := { name := "fnExactExprHead", fn := fun _ => fun
  | [d] => { results := [.lit (.bool true)], args := [d] }
  | _ => none }
def fnExactExprHeadRow : OpenClaim := { program := "ytnhmbncamimehaa", sum := "37c12c888f88071879a0d67af7787c58558926ed5dbdb81ec6072776370523ed", func := "loop.example/typedassembly/laws.FnExactExprHead", spec := "fnExactExprHead", recurses := true, apart := false }
def FnExactExprHeadSaid : Prop := fnExactExprHeadRow.holds Try.pinned (OpenSpec.ofChange fnExactExprHeadSpec)

/-- ITS FALSE NEIGHBOUR: 'it returns false'. Refute it at one input. -/
def fnExactExprHeadWrong : ChangeSpec := { name := "fnExactExprHead", fn := fun _ => fun
  | [d] => { results := [.lit (.bool false)], args := [d] }
  | _ => none }
def FnExactExprHeadWrongFalsely : Prop := fnExactExprHeadRow.holds Try.pinned (OpenSpec.ofChange fnExactExprHeadWrong)

/-- 'laws.FnExactExprMany': WHATEVER THE INPUT: true; the input reads as it did. -/
def fnExactExprManySpec : ChangeSpec := { name := "fnExactExprMany", fn := fun _ => fun
  | [d] => { results := [.lit (.bool true)], args := [d] }
  | _ => none }
def fnExactExprManyRow : OpenClaim := { program := "ytnhmbncamimehaa", sum := "37c12c888f88071879a0d67af7787c58558926ed5dbdb81ec6072776370523ed", func := "loop.example/typedassembly/laws.FnExactExprMany", spec := "fnExactExprMany", recurses := true, apart := false }
def FnExactExprManySaid : Prop := fnExactExprManyRow.holds Try.pinned (OpenSpec.ofChange fnExactExprManySpec)

/-- ITS FALSE NEIGHBOUR: 'it returns false'. Refute it at one input. -/
def fnExactExprManyWrong : ChangeSpec := { name := "fnExactExprMany", fn := fun _ => fun
  | [d] => { results := [.lit (.bool false)], args := [d] }
  | _ => none }
def FnExactExprManyWrongFalsely : Prop := fnExactExprManyRow.holds Try.pinned (OpenSpec.ofChange fnExactExprManyWrong)

/-- 'laws.FnExactNormalIs': WHATEVER THE INPUT: true; the input reads as it did. -/
def fnExactNormalIsSpec : ChangeSpec := { name := "fnExactNormalIs", fn := fun _ => fun
  | [d] => { results := [.lit (.bool true)], args := [d] }
  | _ => none }
def fnExactNormalIsRow : OpenClaim := { program := "ytnhmbncamimehaa", sum := "37c12c888f88071879a0d67af7787c58558926ed5dbdb81ec6072776370523ed", func := "loop.example/typedassembly/laws.FnExactNormalIs", spec := "fnExactNormalIs", recurses := true, apart := false }
def FnExactNormalIsSaid : Prop := fnExactNormalIsRow.holds Try.pinned (OpenSpec.ofChange fnExactNormalIsSpec)

/-- ITS FALSE NEIGHBOUR: 'it returns false'. Refute it at one input. -/
def fnExactNormalIsWrong : ChangeSpec := { name := "fnExactNormalIs", fn := fun _ => fun
  | [d] => { results := [.lit (.bool false)], args := [d] }
  | _ => none }
def FnExactNormalIsWrongFalsely : Prop := fnExactNormalIsRow.holds Try.pinned (OpenSpec.ofChange fnExactNormalIsWrong)

/-- 'laws.FnExactSimpleIs': WHATEVER THE INPUT: true; the input reads as it did. -/
def fnExactSimpleIsSpec : ChangeSpec := { name := "fnExactSimpleIs", fn := fun _ => fun
  | [d] => { results := [.lit (.bool true)], args := [d] }
  | _ => none }
def fnExactSimpleIsRow : OpenClaim := { program := "ytnhmbncamimehaa", sum := "37c12c888f88071879a0d67af7787c58558926ed5dbdb81ec6072776370523ed", func := "loop.example/typedassembly/laws.FnExactSimpleIs", spec := "fnExactSimpleIs", recurses := true, apart := false }
def FnExactSimpleIsSaid : Prop := fnExactSimpleIsRow.holds Try.pinned (OpenSpec.ofChange fnExactSimpleIsSpec)

/-- ITS FALSE NEIGHBOUR: 'it returns false'. Refute it at one input. -/
def fnExactSimpleIsWrong : ChangeSpec := { name := "fnExactSimpleIs", fn := fun _ => fun
  | [d] => { results := [.lit (.bool false)], args := [d] }
  | _ => none }
def FnExactSimpleIsWrongFalsely : Prop := fnExactSimpleIsRow.holds Try.pinned (OpenSpec.ofChange fnExactSimpleIsWrong)

/-- 'laws.FnExactNormalLets': WHATEVER THE INPUT: true; the input reads as it did. -/
def fnExactNormalLetsSpec : ChangeSpec := { name := "fnExactNormalLets", fn := fun _ => fun
  | [d] => { results := [.lit (.bool true)], args := [d] }
  | _ => none }
def fnExactNormalLetsRow : OpenClaim := { program := "ytnhmbncamimehaa", sum := "37c12c888f88071879a0d67af7787c58558926ed5dbdb81ec6072776370523ed", func := "loop.example/typedassembly/laws.FnExactNormalLets", spec := "fnExactNormalLets", recurses := true, apart := false }
def FnExactNormalLetsSaid : Prop := fnExactNormalLetsRow.holds Try.pinned (OpenSpec.ofChange fnExactNormalLetsSpec)

/-- ITS FALSE NEIGHBOUR: 'it returns false'. Refute it at one input. -/
def fnExactNormalLetsWrong : ChangeSpec := { name := "fnExactNormalLets", fn := fun _ => fun
  | [d] => { results := [.lit (.bool false)], args := [d] }
  | _ => none }
def FnExactNormalLetsWrongFalsely : Prop := fnExactNormalLetsRow.holds Try.pinned (OpenSpec.ofChange fnExactNormalLetsWrong)

/-- 'laws.FnExactExprOf': WHATEVER THE INPUT: true; the input reads as it did. -/
def fnExactExprOfSpec : ChangeSpec := { name := "fnExactExprOf", fn := fun _ => fun
  | [d] => { results := [.lit (.bool true)], args := [d] }
  | _ => none }
def fnExactExprOfRow : OpenClaim := { program := "ytnhmbncamimehaa", sum := "37c12c888f88071879a0d67af7787c58558926ed5dbdb81ec6072776370523ed", func := "loop.example/typedassembly/laws.FnExactExprOf", spec := "fnExactExprOf", inPlace := ["internal/abi.NoEscape"], recurses := true, apart := false }
def FnExactExprOfSaid : Prop := fnExactExprOfRow.holds Try.pinned (OpenSpec.ofChange fnExactExprOfSpec)

/-- ITS FALSE NEIGHBOUR: 'it returns false'. Refute it at one input. -/
def fnExactExprOfWrong : ChangeSpec := { name := "fnExactExprOf", fn := fun _ => fun
  | [d] => { results := [.lit (.bool false)], args := [d] }
  | _ => none }
def FnExactExprOfWrongFalsely : Prop := fnExactExprOfRow.holds Try.pinned (OpenSpec.ofChange fnExactExprOfWrong)

/-- 'laws.FnExactExprCount': WHATEVER THE INPUT: true; the input reads as it did. -/
def fnExactExprCountSpec : ChangeSpec := { name := "fnExactExprCount", fn := fun _ => fun
  | [d1, d2] => { results := [.lit (.bool true)], args := [d1, d2] }
  | _ => none }
def fnExactExprCountRow : OpenClaim := { program := "ytnhmbncamimehaa", sum := "37c12c888f88071879a0d67af7787c58558926ed5dbdb81ec6072776370523ed", func := "loop.example/typedassembly/laws.FnExactExprCount", spec := "fnExactExprCount", unfollowed := true, recurses := true, apart := false }
def FnExactExprCountSaid : Prop := fnExactExprCountRow.holds Try.pinned (OpenSpec.ofChange fnExactExprCountSpec)

/-- ITS FALSE NEIGHBOUR: 'it returns false'. Refute it at one input. -/
def fnExactExprCountWrong : ChangeSpec := { name := "fnExactExprCount", fn := fun _ => fun
  | [d1, d2] => { results := [.lit (.bool false)], args := [d1, d2] }
  | _ => none }
def FnExactExprCountWrongFalsely : Prop := fnExactExprCountRow.holds Try.pinned (OpenSpec.ofChange fnExactExprCountWrong)

/-- 'laws.FnExactExprClosed': WHATEVER THE INPUT: true; the input reads as it did. -/
def fnExactExprClosedSpec : ChangeSpec := { name := "fnExactExprClosed", fn := fun _ => fun
  | [d] => { results := [.lit (.bool true)], args := [d] }
  | _ => none }
def fnExactExprClosedRow : OpenClaim := { program := "ytnhmbncamimehaa", sum := "37c12c888f88071879a0d67af7787c58558926ed5dbdb81ec6072776370523ed", func := "loop.example/typedassembly/laws.FnExactExprClosed", spec := "fnExactExprClosed", unfollowed := true, recurses := true, apart := false }
def FnExactExprClosedSaid : Prop := fnExactExprClosedRow.holds Try.pinned (OpenSpec.ofChange fnExactExprClosedSpec)

/-- ITS FALSE NEIGHBOUR: 'it returns false'. Refute it at one input. -/
def fnExactExprClosedWrong : ChangeSpec := { name := "fnExactExprClosed", fn := fun _ => fun
  | [d] => { results := [.lit (.bool false)], args := [d] }
  | _ => none }
def FnExactExprClosedWrongFalsely : Prop := fnExactExprClosedRow.holds Try.pinned (OpenSpec.ofChange fnExactExprClosedWrong)

/-- 'laws.FnExactExprKids': WHATEVER THE INPUT: true; the input reads as it did. -/
def fnExactExprKidsSpec : ChangeSpec := { name := "fnExactExprKids", fn := fun _ => fun
  | [d] => { results := [.lit (.bool true)], args := [d] }
  | _ => none }
def fnExactExprKidsRow : OpenClaim := { program := "ytnhmbncamimehaa", sum := "37c12c888f88071879a0d67af7787c58558926ed5dbdb81ec6072776370523ed", func := "loop.example/typedassembly/laws.FnExactExprKids", spec := "fnExactExprKids", inPlace := ["internal/abi.NoEscape"], recurses := true, apart := false }
def FnExactExprKidsSaid : Prop := fnExactExprKidsRow.holds Try.pinned (OpenSpec.ofChange fnExactExprKidsSpec)

/-- ITS FALSE NEIGHBOUR: 'it returns false'. Refute it at one input. -/
def fnExactExprKidsWrong : ChangeSpec := { name := "fnExactExprKids", fn := fun _ => fun
  | [d] => { results := [.lit (.bool false)], args := [d] }
  | _ => none }
def FnExactExprKidsWrongFalsely : Prop := fnExactExprKidsRow.holds Try.pinned (OpenSpec.ofChange fnExactExprKidsWrong)

/-- 'laws.FnExactExprFree': WHATEVER THE INPUT: true; the input reads as it did. -/
def fnExactExprFreeSpec : ChangeSpec := { name := "fnExactExprFree", fn := fun _ => fun
  | [d] => { results := [.lit (.bool true)], args := [d] }
  | _ => none }
def fnExactExprFreeRow : OpenClaim := { program := "ytnhmbncamimehaa", sum := "37c12c888f88071879a0d67af7787c58558926ed5dbdb81ec6072776370523ed", func := "loop.example/typedassembly/laws.FnExactExprFree", spec := "fnExactExprFree", unfollowed := true, recurses := true, apart := false }
def FnExactExprFreeSaid : Prop := fnExactExprFreeRow.holds Try.pinned (OpenSpec.ofChange fnExactExprFreeSpec)

/-- ITS FALSE NEIGHBOUR: 'it returns false'. Refute it at one input. -/
def fnExactExprFreeWrong : ChangeSpec := { name := "fnExactExprFree", fn := fun _ => fun
  | [d] => { results := [.lit (.bool false)], args := [d] }
  | _ => none }
def FnExactExprFreeWrongFalsely : Prop := fnExactExprFreeRow.holds Try.pinned (OpenSpec.ofChange fnExactExprFreeWrong)

/- THE SECOND FORM. 'bulk': how many values and letters a reading holds, each counted each time it is reached (what is shared counts as often as it is met; a slice's spare places count too). A statement '..UptoSaid' is the law's where the arguments, and the package variables that the reading takes, are together of bulk at most 1048576: NARROWER than '..Said'. Prove '..Said' where nothing that the law and all that it calls make is longer than what came in: it says more and counts as full. Else prove '..UptoSaid'. A law counts once. -/
mutual
def uptoBulk {H : Type} : DataW H → Nat
  | .lit (.string bytes) => bytes.length + 1
  | .lit _ => 1
  | .nil => 1
  | .ptr d => uptoBulk d + 1
  | .slice elems spare => uptoBulkAll elems + uptoBulkAll spare + 1
  | .agg parts => uptoBulkAll parts + 1
  | .iface _ d => uptoBulk d + 1
  | .map entries => uptoBulkEntries entries + 1
  | .held _ => 1
def uptoBulkAll {H : Type} : List (DataW H) → Nat
  | [] => 0
  | d :: r => uptoBulk d + uptoBulkAll r
def uptoBulkEntries {H : Type} : List (Lit × DataW H) → Nat
  | [] => 0
  | x :: r => uptoBulkEntry x + uptoBulkEntries r
def uptoBulkEntry {H : Type} : Lit × DataW H → Nat
  | (.string bytes, d) => bytes.length + uptoBulk d + 1
  | (_, d) => uptoBulk d + 1
 end
def uptoSmall : (H : Type) → List (DataW H) → Bool := fun _ ds => decide (uptoBulkAll ds ≤ 1048576)
def OpenSpec.upto (s : _root_.Go.ChangeSpec) : _root_.Go.OpenSpec := { _root_.Go.OpenSpec.ofChange s with cond := some uptoSmall }

/-- 'laws.FnExactEnvValid', WHERE WHAT IT READS IS OF BULK AT MOST 1048576: true; the input reads as it did. -/
def fnExactEnvValidUptoRow : OpenClaim := { program := "ytnhmbncamimehaa", sum := "37c12c888f88071879a0d67af7787c58558926ed5dbdb81ec6072776370523ed", func := "loop.example/typedassembly/laws.FnExactEnvValid", spec := "fnExactEnvValid", recurses := true, apart := false, narrowed := true }
def FnExactEnvValidUptoSaid : Prop := fnExactEnvValidUptoRow.holds Try.pinned (OpenSpec.upto fnExactEnvValidSpec)

/-- 'laws.FnExactExprValid', WHERE WHAT IT READS IS OF BULK AT MOST 1048576: true; the input reads as it did. -/
def fnExactExprValidUptoRow : OpenClaim := { program := "ytnhmbncamimehaa", sum := "37c12c888f88071879a0d67af7787c58558926ed5dbdb81ec6072776370523ed", func := "loop.example/typedassembly/laws.FnExactExprValid", spec := "fnExactExprValid", recurses := true, apart := false, narrowed := true }
def FnExactExprValidUptoSaid : Prop := fnExactExprValidUptoRow.holds Try.pinned (OpenSpec.upto fnExactExprValidSpec)

/-- 'laws.FnExactExprHead', WHERE WHAT IT READS IS OF BULK AT MOST 1048576: true; the input reads as it did. -/
def fnExactExprHeadUptoRow : OpenClaim := { program := "ytnhmbncamimehaa", sum := "37c12c888f88071879a0d67af7787c58558926ed5dbdb81ec6072776370523ed", func := "loop.example/typedassembly/laws.FnExactExprHead", spec := "fnExactExprHead", recurses := true, apart := false, narrowed := true }
def FnExactExprHeadUptoSaid : Prop := fnExactExprHeadUptoRow.holds Try.pinned (OpenSpec.upto fnExactExprHeadSpec)

/-- 'laws.FnExactExprMany', WHERE WHAT IT READS IS OF BULK AT MOST 1048576: true; the input reads as it did. -/
def fnExactExprManyUptoRow : OpenClaim := { program := "ytnhmbncamimehaa", sum := "37c12c888f88071879a0d67af7787c58558926ed5dbdb81ec6072776370523ed", func := "loop.example/typedassembly/laws.FnExactExprMany", spec := "fnExactExprMany", recurses := true, apart := false, narrowed := true }
def FnExactExprManyUptoSaid : Prop := fnExactExprManyUptoRow.holds Try.pinned (OpenSpec.upto fnExactExprManySpec)

/-- 'laws.FnExactNormalIs', WHERE WHAT IT READS IS OF BULK AT MOST 1048576: true; the input reads as it did. -/
def fnExactNormalIsUptoRow : OpenClaim := { program := "ytnhmbncamimehaa", sum := "37c12c888f88071879a0d67af7787c58558926ed5dbdb81ec6072776370523ed", func := "loop.example/typedassembly/laws.FnExactNormalIs", spec := "fnExactNormalIs", recurses := true, apart := false, narrowed := true }
def FnExactNormalIsUptoSaid : Prop := fnExactNormalIsUptoRow.holds Try.pinned (OpenSpec.upto fnExactNormalIsSpec)

/-- 'laws.FnExactSimpleIs', WHERE WHAT IT READS IS OF BULK AT MOST 1048576: true; the input reads as it did. -/
def fnExactSimpleIsUptoRow : OpenClaim := { program := "ytnhmbncamimehaa", sum := "37c12c888f88071879a0d67af7787c58558926ed5dbdb81ec6072776370523ed", func := "loop.example/typedassembly/laws.FnExactSimpleIs", spec := "fnExactSimpleIs", recurses := true, apart := false, narrowed := true }
def FnExactSimpleIsUptoSaid : Prop := fnExactSimpleIsUptoRow.holds Try.pinned (OpenSpec.upto fnExactSimpleIsSpec)

/-- 'laws.FnExactNormalLets', WHERE WHAT IT READS IS OF BULK AT MOST 1048576: true; the input reads as it did. -/
def fnExactNormalLetsUptoRow : OpenClaim := { program := "ytnhmbncamimehaa", sum := "37c12c888f88071879a0d67af7787c58558926ed5dbdb81ec6072776370523ed", func := "loop.example/typedassembly/laws.FnExactNormalLets", spec := "fnExactNormalLets", recurses := true, apart := false, narrowed := true }
def FnExactNormalLetsUptoSaid : Prop := fnExactNormalLetsUptoRow.holds Try.pinned (OpenSpec.upto fnExactNormalLetsSpec)

/-- 'laws.FnExactExprOf', WHERE WHAT IT READS IS OF BULK AT MOST 1048576: true; the input reads as it did. -/
def fnExactExprOfUptoRow : OpenClaim := { program := "ytnhmbncamimehaa", sum := "37c12c888f88071879a0d67af7787c58558926ed5dbdb81ec6072776370523ed", func := "loop.example/typedassembly/laws.FnExactExprOf", spec := "fnExactExprOf", inPlace := ["internal/abi.NoEscape"], recurses := true, apart := false, narrowed := true }
def FnExactExprOfUptoSaid : Prop := fnExactExprOfUptoRow.holds Try.pinned (OpenSpec.upto fnExactExprOfSpec)

/-- 'laws.FnExactExprCount', WHERE WHAT IT READS IS OF BULK AT MOST 1048576: true; the input reads as it did. -/
def fnExactExprCountUptoRow : OpenClaim := { program := "ytnhmbncamimehaa", sum := "37c12c888f88071879a0d67af7787c58558926ed5dbdb81ec6072776370523ed", func := "loop.example/typedassembly/laws.FnExactExprCount", spec := "fnExactExprCount", unfollowed := true, recurses := true, apart := false, narrowed := true }
def FnExactExprCountUptoSaid : Prop := fnExactExprCountUptoRow.holds Try.pinned (OpenSpec.upto fnExactExprCountSpec)

/-- 'laws.FnExactExprClosed', WHERE WHAT IT READS IS OF BULK AT MOST 1048576: true; the input reads as it did. -/
def fnExactExprClosedUptoRow : OpenClaim := { program := "ytnhmbncamimehaa", sum := "37c12c888f88071879a0d67af7787c58558926ed5dbdb81ec6072776370523ed", func := "loop.example/typedassembly/laws.FnExactExprClosed", spec := "fnExactExprClosed", unfollowed := true, recurses := true, apart := false, narrowed := true }
def FnExactExprClosedUptoSaid : Prop := fnExactExprClosedUptoRow.holds Try.pinned (OpenSpec.upto fnExactExprClosedSpec)

/-- 'laws.FnExactExprKids', WHERE WHAT IT READS IS OF BULK AT MOST 1048576: true; the input reads as it did. -/
def fnExactExprKidsUptoRow : OpenClaim := { program := "ytnhmbncamimehaa", sum := "37c12c888f88071879a0d67af7787c58558926ed5dbdb81ec6072776370523ed", func := "loop.example/typedassembly/laws.FnExactExprKids", spec := "fnExactExprKids", inPlace := ["internal/abi.NoEscape"], recurses := true, apart := false, narrowed := true }
def FnExactExprKidsUptoSaid : Prop := fnExactExprKidsUptoRow.holds Try.pinned (OpenSpec.upto fnExactExprKidsSpec)

/-- 'laws.FnExactExprFree', WHERE WHAT IT READS IS OF BULK AT MOST 1048576: true; the input reads as it did. -/
def fnExactExprFreeUptoRow : OpenClaim := { program := "ytnhmbncamimehaa", sum := "37c12c888f88071879a0d67af7787c58558926ed5dbdb81ec6072776370523ed", func := "loop.example/typedassembly/laws.FnExactExprFree", spec := "fnExactExprFree", unfollowed := true, recurses := true, apart := false, narrowed := true }
def FnExactExprFreeUptoSaid : Prop := fnExactExprFreeUptoRow.holds Try.pinned (OpenSpec.upto fnExactExprFreeSpec)

end Rows
end Go.Proofs.Ytnhmbncamimehaa
