/-
  No cell of these rows narrows 'for every input' (looked for: loops, veiled, ifaces, maps, wideKeys, modest, calm, conditions, laid).
  DERIVED. THE GIVEN ROWS OF THIS SEAT. 12 by the template 'for every input the law returns true; each argument reads behind the call as it read before'; 0 by the template 'total and deterministic' (their statements: YtclpcgkfgbkjmaaTotals.lean).
  GIVEN WITH THE SEED: the statements are not yours to turn. If you find one false, say at which input.
  Laid BY PROGRAM, IN A SANDBOX (cutbox-rows.mjs): the forced cells as the released guide's own fill.sh prints them over the translation 18c4df0756f4ee5a… (all of the seat's roots in one cut). By AI agents, Wed Nov 11 2026. No macro, syntax, notation, axiom, sorry.
-/
import Derived.Test.YtclpcgkfgbkjmaaChecked
import GoSem.Claim
import GoSem.ClaimJoined
import GoSem.ClaimMapViews
import Derived.JoinedTies
import Derived.KernelRfl
namespace Go.Proofs.Ytclpcgkfgbkjmaa
/- THE CELL 'sum', in the pinned program and in every row, IS THE sha256 OF THE DUMP (.gsa) THAT YtclpcgkfgbkjmaaProg.lean LOADS. Nothing in Lean hashes anything: it is a label: what it is worth is what the hold of that sum in a sandbox is worth. -/
noncomputable def Try.pinned : Pinned := { name := "ytclpcgkfgbkjmaa", sum := "18c4df0756f4ee5aba65c548268cbcc0cec6586f98e95c365c5be41203d6c7cf", checked := Try.checked }
namespace Rows
def none {H : Type} : Left H := { results := [], args := [] }

/-- 'laws.FnExactFormParts': WHATEVER THE INPUT: true; the input reads as it did. -/
def fnExactFormPartsSpec : ChangeSpec := { name := "fnExactFormParts", fn := fun _ => fun
  | [d] => { results := [.lit (.bool true)], args := [d] }
  | _ => none }
def fnExactFormPartsRow : OpenClaim := { program := "ytclpcgkfgbkjmaa", sum := "18c4df0756f4ee5aba65c548268cbcc0cec6586f98e95c365c5be41203d6c7cf", func := "loop.example/typedassembly/laws.FnExactFormParts", spec := "fnExactFormParts", inPlace := ["internal/abi.NoEscape"], recurses := true, apart := false }
def FnExactFormPartsSaid : Prop := fnExactFormPartsRow.holds Try.pinned (OpenSpec.ofChange fnExactFormPartsSpec)

/-- ITS FALSE NEIGHBOUR: 'it returns false'. Refute it at one input. -/
def fnExactFormPartsWrong : ChangeSpec := { name := "fnExactFormParts", fn := fun _ => fun
  | [d] => { results := [.lit (.bool false)], args := [d] }
  | _ => none }
def FnExactFormPartsWrongFalsely : Prop := fnExactFormPartsRow.holds Try.pinned (OpenSpec.ofChange fnExactFormPartsWrong)

/-- 'laws.FnForm': WHATEVER THE INPUT: true; the input reads as it did. -/
def fnFormSpec : ChangeSpec := { name := "fnForm", fn := fun _ => fun
  | [d] => { results := [.lit (.bool true)], args := [d] }
  | _ => none }
def fnFormRow : OpenClaim := { program := "ytclpcgkfgbkjmaa", sum := "18c4df0756f4ee5aba65c548268cbcc0cec6586f98e95c365c5be41203d6c7cf", func := "loop.example/typedassembly/laws.FnForm", spec := "fnForm", unfollowed := true, recurses := true, apart := false }
def FnFormSaid : Prop := fnFormRow.holds Try.pinned (OpenSpec.ofChange fnFormSpec)

/-- ITS FALSE NEIGHBOUR: 'it returns false'. Refute it at one input. -/
def fnFormWrong : ChangeSpec := { name := "fnForm", fn := fun _ => fun
  | [d] => { results := [.lit (.bool false)], args := [d] }
  | _ => none }
def FnFormWrongFalsely : Prop := fnFormRow.holds Try.pinned (OpenSpec.ofChange fnFormWrong)

/-- 'laws.FnExactTypeFun': WHATEVER THE INPUT: true; the input reads as it did. -/
def fnExactTypeFunSpec : ChangeSpec := { name := "fnExactTypeFun", fn := fun _ => fun
  | [d] => { results := [.lit (.bool true)], args := [d] }
  | _ => none }
def fnExactTypeFunRow : OpenClaim := { program := "ytclpcgkfgbkjmaa", sum := "18c4df0756f4ee5aba65c548268cbcc0cec6586f98e95c365c5be41203d6c7cf", func := "loop.example/typedassembly/laws.FnExactTypeFun", spec := "fnExactTypeFun", inPlace := ["internal/abi.NoEscape"], recurses := true, apart := false }
def FnExactTypeFunSaid : Prop := fnExactTypeFunRow.holds Try.pinned (OpenSpec.ofChange fnExactTypeFunSpec)

/-- ITS FALSE NEIGHBOUR: 'it returns false'. Refute it at one input. -/
def fnExactTypeFunWrong : ChangeSpec := { name := "fnExactTypeFun", fn := fun _ => fun
  | [d] => { results := [.lit (.bool false)], args := [d] }
  | _ => none }
def FnExactTypeFunWrongFalsely : Prop := fnExactTypeFunRow.holds Try.pinned (OpenSpec.ofChange fnExactTypeFunWrong)

/-- 'laws.FnExactTypeMake': WHATEVER THE INPUT: true; the input reads as it did. -/
def fnExactTypeMakeSpec : ChangeSpec := { name := "fnExactTypeMake", fn := fun _ => fun
  | [d1, d2, d3] => { results := [.lit (.bool true)], args := [d1, d2, d3] }
  | _ => none }
def fnExactTypeMakeRow : OpenClaim := { program := "ytclpcgkfgbkjmaa", sum := "18c4df0756f4ee5aba65c548268cbcc0cec6586f98e95c365c5be41203d6c7cf", func := "loop.example/typedassembly/laws.FnExactTypeMake", spec := "fnExactTypeMake", inPlace := ["internal/abi.NoEscape"], recurses := true, apart := false }
def FnExactTypeMakeSaid : Prop := fnExactTypeMakeRow.holds Try.pinned (OpenSpec.ofChange fnExactTypeMakeSpec)

/-- ITS FALSE NEIGHBOUR: 'it returns false'. Refute it at one input. -/
def fnExactTypeMakeWrong : ChangeSpec := { name := "fnExactTypeMake", fn := fun _ => fun
  | [d1, d2, d3] => { results := [.lit (.bool false)], args := [d1, d2, d3] }
  | _ => none }
def FnExactTypeMakeWrongFalsely : Prop := fnExactTypeMakeRow.holds Try.pinned (OpenSpec.ofChange fnExactTypeMakeWrong)

/-- 'laws.FnExactTypePair': WHATEVER THE INPUT: true; the input reads as it did. -/
def fnExactTypePairSpec : ChangeSpec := { name := "fnExactTypePair", fn := fun _ => fun
  | [d] => { results := [.lit (.bool true)], args := [d] }
  | _ => none }
def fnExactTypePairRow : OpenClaim := { program := "ytclpcgkfgbkjmaa", sum := "18c4df0756f4ee5aba65c548268cbcc0cec6586f98e95c365c5be41203d6c7cf", func := "loop.example/typedassembly/laws.FnExactTypePair", spec := "fnExactTypePair", inPlace := ["internal/abi.NoEscape"], recurses := true, apart := false }
def FnExactTypePairSaid : Prop := fnExactTypePairRow.holds Try.pinned (OpenSpec.ofChange fnExactTypePairSpec)

/-- ITS FALSE NEIGHBOUR: 'it returns false'. Refute it at one input. -/
def fnExactTypePairWrong : ChangeSpec := { name := "fnExactTypePair", fn := fun _ => fun
  | [d] => { results := [.lit (.bool false)], args := [d] }
  | _ => none }
def FnExactTypePairWrongFalsely : Prop := fnExactTypePairRow.holds Try.pinned (OpenSpec.ofChange fnExactTypePairWrong)

/-- 'laws.FnExactFormMake': WHATEVER THE INPUT: true; the input reads as it did. -/
def fnExactFormMakeSpec : ChangeSpec := { name := "fnExactFormMake", fn := fun _ => fun
  | [d] => { results := [.lit (.bool true)], args := [d] }
  | _ => none }
def fnExactFormMakeRow : OpenClaim := { program := "ytclpcgkfgbkjmaa", sum := "18c4df0756f4ee5aba65c548268cbcc0cec6586f98e95c365c5be41203d6c7cf", func := "loop.example/typedassembly/laws.FnExactFormMake", spec := "fnExactFormMake", inPlace := ["internal/abi.NoEscape"], recurses := true, apart := false }
def FnExactFormMakeSaid : Prop := fnExactFormMakeRow.holds Try.pinned (OpenSpec.ofChange fnExactFormMakeSpec)

/-- ITS FALSE NEIGHBOUR: 'it returns false'. Refute it at one input. -/
def fnExactFormMakeWrong : ChangeSpec := { name := "fnExactFormMake", fn := fun _ => fun
  | [d] => { results := [.lit (.bool false)], args := [d] }
  | _ => none }
def FnExactFormMakeWrongFalsely : Prop := fnExactFormMakeRow.holds Try.pinned (OpenSpec.ofChange fnExactFormMakeWrong)

/-- 'laws.FnExactFormReplace': WHATEVER THE INPUT: true; the input reads as it did. -/
def fnExactFormReplaceSpec : ChangeSpec := { name := "fnExactFormReplace", fn := fun _ => fun
  | [d1, d2, d3] => { results := [.lit (.bool true)], args := [d1, d2, d3] }
  | _ => none }
def fnExactFormReplaceRow : OpenClaim := { program := "ytclpcgkfgbkjmaa", sum := "18c4df0756f4ee5aba65c548268cbcc0cec6586f98e95c365c5be41203d6c7cf", func := "loop.example/typedassembly/laws.FnExactFormReplace", spec := "fnExactFormReplace", inPlace := ["internal/abi.NoEscape"], unfollowed := true, recurses := true, apart := false }
def FnExactFormReplaceSaid : Prop := fnExactFormReplaceRow.holds Try.pinned (OpenSpec.ofChange fnExactFormReplaceSpec)

/-- ITS FALSE NEIGHBOUR: 'it returns false'. Refute it at one input. -/
def fnExactFormReplaceWrong : ChangeSpec := { name := "fnExactFormReplace", fn := fun _ => fun
  | [d1, d2, d3] => { results := [.lit (.bool false)], args := [d1, d2, d3] }
  | _ => none }
def FnExactFormReplaceWrongFalsely : Prop := fnExactFormReplaceRow.holds Try.pinned (OpenSpec.ofChange fnExactFormReplaceWrong)

/-- 'laws.FnOrder': WHATEVER THE INPUT: true; the input reads as it did. -/
def fnOrderSpec : ChangeSpec := { name := "fnOrder", fn := fun _ => fun
  | [d] => { results := [.lit (.bool true)], args := [d] }
  | _ => none }
def fnOrderRow : OpenClaim := { program := "ytclpcgkfgbkjmaa", sum := "18c4df0756f4ee5aba65c548268cbcc0cec6586f98e95c365c5be41203d6c7cf", func := "loop.example/typedassembly/laws.FnOrder", spec := "fnOrder", unfollowed := true, recurses := true, apart := false }
def FnOrderSaid : Prop := fnOrderRow.holds Try.pinned (OpenSpec.ofChange fnOrderSpec)

/-- ITS FALSE NEIGHBOUR: 'it returns false'. Refute it at one input. -/
def fnOrderWrong : ChangeSpec := { name := "fnOrder", fn := fun _ => fun
  | [d] => { results := [.lit (.bool false)], args := [d] }
  | _ => none }
def FnOrderWrongFalsely : Prop := fnOrderRow.holds Try.pinned (OpenSpec.ofChange fnOrderWrong)

/-- 'laws.FnType': WHATEVER THE INPUT: true; the input reads as it did. -/
def fnTypeSpec : ChangeSpec := { name := "fnType", fn := fun _ => fun
  | [d] => { results := [.lit (.bool true)], args := [d] }
  | _ => none }
def fnTypeRow : OpenClaim := { program := "ytclpcgkfgbkjmaa", sum := "18c4df0756f4ee5aba65c548268cbcc0cec6586f98e95c365c5be41203d6c7cf", func := "loop.example/typedassembly/laws.FnType", spec := "fnType", inPlace := ["internal/abi.NoEscape"], recurses := true, apart := false }
def FnTypeSaid : Prop := fnTypeRow.holds Try.pinned (OpenSpec.ofChange fnTypeSpec)

/-- ITS FALSE NEIGHBOUR: 'it returns false'. Refute it at one input. -/
def fnTypeWrong : ChangeSpec := { name := "fnType", fn := fun _ => fun
  | [d] => { results := [.lit (.bool false)], args := [d] }
  | _ => none }
def FnTypeWrongFalsely : Prop := fnTypeRow.holds Try.pinned (OpenSpec.ofChange fnTypeWrong)

/-- 'laws.FnDepth': WHATEVER THE INPUT: true; the input reads as it did. -/
def fnDepthSpec : ChangeSpec := { name := "fnDepth", fn := fun _ => fun
  | [d] => { results := [.lit (.bool true)], args := [d] }
  | _ => none }
def fnDepthRow : OpenClaim := { program := "ytclpcgkfgbkjmaa", sum := "18c4df0756f4ee5aba65c548268cbcc0cec6586f98e95c365c5be41203d6c7cf", func := "loop.example/typedassembly/laws.FnDepth", spec := "fnDepth", inPlace := ["internal/abi.NoEscape"], recurses := true, apart := false }
def FnDepthSaid : Prop := fnDepthRow.holds Try.pinned (OpenSpec.ofChange fnDepthSpec)

/-- ITS FALSE NEIGHBOUR: 'it returns false'. Refute it at one input. -/
def fnDepthWrong : ChangeSpec := { name := "fnDepth", fn := fun _ => fun
  | [d] => { results := [.lit (.bool false)], args := [d] }
  | _ => none }
def FnDepthWrongFalsely : Prop := fnDepthRow.holds Try.pinned (OpenSpec.ofChange fnDepthWrong)

/-- 'laws.FnMakeForm': WHATEVER THE INPUT: true; the input reads as it did. -/
def fnMakeFormSpec : ChangeSpec := { name := "fnMakeForm", fn := fun _ => fun
  | [d] => { results := [.lit (.bool true)], args := [d] }
  | _ => none }
def fnMakeFormRow : OpenClaim := { program := "ytclpcgkfgbkjmaa", sum := "18c4df0756f4ee5aba65c548268cbcc0cec6586f98e95c365c5be41203d6c7cf", func := "loop.example/typedassembly/laws.FnMakeForm", spec := "fnMakeForm", inPlace := ["internal/abi.NoEscape"], recurses := true, apart := false }
def FnMakeFormSaid : Prop := fnMakeFormRow.holds Try.pinned (OpenSpec.ofChange fnMakeFormSpec)

/-- ITS FALSE NEIGHBOUR: 'it returns false'. Refute it at one input. -/
def fnMakeFormWrong : ChangeSpec := { name := "fnMakeForm", fn := fun _ => fun
  | [d] => { results := [.lit (.bool false)], args := [d] }
  | _ => none }
def FnMakeFormWrongFalsely : Prop := fnMakeFormRow.holds Try.pinned (OpenSpec.ofChange fnMakeFormWrong)

/-- 'laws.FnParts': WHATEVER THE INPUT: true; the input reads as it did. -/
def fnPartsSpec : ChangeSpec := { name := "fnParts", fn := fun _ => fun
  | [d] => { results := [.lit (.bool true)], args := [d] }
  | _ => none }
def fnPartsRow : OpenClaim := { program := "ytclpcgkfgbkjmaa", sum := "18c4df0756f4ee5aba65c548268cbcc0cec6586f98e95c365c5be41203d6c7cf", func := "loop.example/typedassembly/laws.FnParts", spec := "fnParts", inPlace := ["internal/abi.NoEscape"], recurses := true, apart := false }
def FnPartsSaid : Prop := fnPartsRow.holds Try.pinned (OpenSpec.ofChange fnPartsSpec)

/-- ITS FALSE NEIGHBOUR: 'it returns false'. Refute it at one input. -/
def fnPartsWrong : ChangeSpec := { name := "fnParts", fn := fun _ => fun
  | [d] => { results := [.lit (.bool false)], args := [d] }
  | _ => none }
def FnPartsWrongFalsely : Prop := fnPartsRow.holds Try.pinned (OpenSpec.ofChange fnPartsWrong)

/- THE SECOND FORM. 'bulk': how many values and letters a reading holds, each counted each time it is reached (what is shared counts as often as it is met; a slice's spare places count too). A statement '..UptoSaid' is the law's where the arguments, and the package variables that the reading takes, are together of bulk at most 1048576: NARROWER than '..Said'. Prove '..Said' where nothing that the law and all that it calls make is longer than what came in: it says more and counts as full. Else prove '..UptoSaid'. A law counts once. -/
mutual
def uptoBulk {H : Type} : DataW H → Nat
  | .lit (.string bytes) => bytes.length + 1
  | .lit _ => 1
  | .nil => 1
  | .ptr d => uptoBulk d + 1
  | .slice elems spare => uptoBulkAll elems + uptoBulkAll spare + 1
  | .agg parts => uptoBulkAll parts + 1
  | .iface _ d => uptoBulk d + 1
  | .map entries => uptoBulkEntries entries + 1
  | .held _ => 1
def uptoBulkAll {H : Type} : List (DataW H) → Nat
  | [] => 0
  | d :: r => uptoBulk d + uptoBulkAll r
def uptoBulkEntries {H : Type} : List (Lit × DataW H) → Nat
  | [] => 0
  | x :: r => uptoBulkEntry x + uptoBulkEntries r
def uptoBulkEntry {H : Type} : Lit × DataW H → Nat
  | (.string bytes, d) => bytes.length + uptoBulk d + 1
  | (_, d) => uptoBulk d + 1
 end
def uptoSmall : (H : Type) → List (DataW H) → Bool := fun _ ds => decide (uptoBulkAll ds ≤ 1048576)
def OpenSpec.upto (s : _root_.Go.ChangeSpec) : _root_.Go.OpenSpec := { _root_.Go.OpenSpec.ofChange s with cond := some uptoSmall }

/-- 'laws.FnExactFormParts', WHERE WHAT IT READS IS OF BULK AT MOST 1048576: true; the input reads as it did. -/
def fnExactFormPartsUptoRow : OpenClaim := { program := "ytclpcgkfgbkjmaa", sum := "18c4df0756f4ee5aba65c548268cbcc0cec6586f98e95c365c5be41203d6c7cf", func := "loop.example/typedassembly/laws.FnExactFormParts", spec := "fnExactFormParts", inPlace := ["internal/abi.NoEscape"], recurses := true, apart := false, narrowed := true }
def FnExactFormPartsUptoSaid : Prop := fnExactFormPartsUptoRow.holds Try.pinned (OpenSpec.upto fnExactFormPartsSpec)

/-- 'laws.FnForm', WHERE WHAT IT READS IS OF BULK AT MOST 1048576: true; the input reads as it did. -/
def fnFormUptoRow : OpenClaim := { program := "ytclpcgkfgbkjmaa", sum := "18c4df0756f4ee5aba65c548268cbcc0cec6586f98e95c365c5be41203d6c7cf", func := "loop.example/typedassembly/laws.FnForm", spec := "fnForm", unfollowed := true, recurses := true, apart := false, narrowed := true }
def FnFormUptoSaid : Prop := fnFormUptoRow.holds Try.pinned (OpenSpec.upto fnFormSpec)

/-- 'laws.FnExactTypeFun', WHERE WHAT IT READS IS OF BULK AT MOST 1048576: true; the input reads as it did. -/
def fnExactTypeFunUptoRow : OpenClaim := { program := "ytclpcgkfgbkjmaa", sum := "18c4df0756f4ee5aba65c548268cbcc0cec6586f98e95c365c5be41203d6c7cf", func := "loop.example/typedassembly/laws.FnExactTypeFun", spec := "fnExactTypeFun", inPlace := ["internal/abi.NoEscape"], recurses := true, apart := false, narrowed := true }
def FnExactTypeFunUptoSaid : Prop := fnExactTypeFunUptoRow.holds Try.pinned (OpenSpec.upto fnExactTypeFunSpec)

/-- 'laws.FnExactTypeMake', WHERE WHAT IT READS IS OF BULK AT MOST 1048576: true; the input reads as it did. -/
def fnExactTypeMakeUptoRow : OpenClaim := { program := "ytclpcgkfgbkjmaa", sum := "18c4df0756f4ee5aba65c548268cbcc0cec6586f98e95c365c5be41203d6c7cf", func := "loop.example/typedassembly/laws.FnExactTypeMake", spec := "fnExactTypeMake", inPlace := ["internal/abi.NoEscape"], recurses := true, apart := false, narrowed := true }
def FnExactTypeMakeUptoSaid : Prop := fnExactTypeMakeUptoRow.holds Try.pinned (OpenSpec.upto fnExactTypeMakeSpec)

/-- 'laws.FnExactTypePair', WHERE WHAT IT READS IS OF BULK AT MOST 1048576: true; the input reads as it did. -/
def fnExactTypePairUptoRow : OpenClaim := { program := "ytclpcgkfgbkjmaa", sum := "18c4df0756f4ee5aba65c548268cbcc0cec6586f98e95c365c5be41203d6c7cf", func := "loop.example/typedassembly/laws.FnExactTypePair", spec := "fnExactTypePair", inPlace := ["internal/abi.NoEscape"], recurses := true, apart := false, narrowed := true }
def FnExactTypePairUptoSaid : Prop := fnExactTypePairUptoRow.holds Try.pinned (OpenSpec.upto fnExactTypePairSpec)

/-- 'laws.FnExactFormMake', WHERE WHAT IT READS IS OF BULK AT MOST 1048576: true; the input reads as it did. -/
def fnExactFormMakeUptoRow : OpenClaim := { program := "ytclpcgkfgbkjmaa", sum := "18c4df0756f4ee5aba65c548268cbcc0cec6586f98e95c365c5be41203d6c7cf", func := "loop.example/typedassembly/laws.FnExactFormMake", spec := "fnExactFormMake", inPlace := ["internal/abi.NoEscape"], recurses := true, apart := false, narrowed := true }
def FnExactFormMakeUptoSaid : Prop := fnExactFormMakeUptoRow.holds Try.pinned (OpenSpec.upto fnExactFormMakeSpec)

/-- 'laws.FnExactFormReplace', WHERE WHAT IT READS IS OF BULK AT MOST 1048576: true; the input reads as it did. -/
def fnExactFormReplaceUptoRow : OpenClaim := { program := "ytclpcgkfgbkjmaa", sum := "18c4df0756f4ee5aba65c548268cbcc0cec6586f98e95c365c5be41203d6c7cf", func := "loop.example/typedassembly/laws.FnExactFormReplace", spec := "fnExactFormReplace", inPlace := ["internal/abi.NoEscape"], unfollowed := true, recurses := true, apart := false, narrowed := true }
def FnExactFormReplaceUptoSaid : Prop := fnExactFormReplaceUptoRow.holds Try.pinned (OpenSpec.upto fnExactFormReplaceSpec)

/-- 'laws.FnOrder', WHERE WHAT IT READS IS OF BULK AT MOST 1048576: true; the input reads as it did. -/
def fnOrderUptoRow : OpenClaim := { program := "ytclpcgkfgbkjmaa", sum := "18c4df0756f4ee5aba65c548268cbcc0cec6586f98e95c365c5be41203d6c7cf", func := "loop.example/typedassembly/laws.FnOrder", spec := "fnOrder", unfollowed := true, recurses := true, apart := false, narrowed := true }
def FnOrderUptoSaid : Prop := fnOrderUptoRow.holds Try.pinned (OpenSpec.upto fnOrderSpec)

/-- 'laws.FnType', WHERE WHAT IT READS IS OF BULK AT MOST 1048576: true; the input reads as it did. -/
def fnTypeUptoRow : OpenClaim := { program := "ytclpcgkfgbkjmaa", sum := "18c4df0756f4ee5aba65c548268cbcc0cec6586f98e95c365c5be41203d6c7cf", func := "loop.example/typedassembly/laws.FnType", spec := "fnType", inPlace := ["internal/abi.NoEscape"], recurses := true, apart := false, narrowed := true }
def FnTypeUptoSaid : Prop := fnTypeUptoRow.holds Try.pinned (OpenSpec.upto fnTypeSpec)

/-- 'laws.FnDepth', WHERE WHAT IT READS IS OF BULK AT MOST 1048576: true; the input reads as it did. -/
def fnDepthUptoRow : OpenClaim := { program := "ytclpcgkfgbkjmaa", sum := "18c4df0756f4ee5aba65c548268cbcc0cec6586f98e95c365c5be41203d6c7cf", func := "loop.example/typedassembly/laws.FnDepth", spec := "fnDepth", inPlace := ["internal/abi.NoEscape"], recurses := true, apart := false, narrowed := true }
def FnDepthUptoSaid : Prop := fnDepthUptoRow.holds Try.pinned (OpenSpec.upto fnDepthSpec)

/-- 'laws.FnMakeForm', WHERE WHAT IT READS IS OF BULK AT MOST 1048576: true; the input reads as it did. -/
def fnMakeFormUptoRow : OpenClaim := { program := "ytclpcgkfgbkjmaa", sum := "18c4df0756f4ee5aba65c548268cbcc0cec6586f98e95c365c5be41203d6c7cf", func := "loop.example/typedassembly/laws.FnMakeForm", spec := "fnMakeForm", inPlace := ["internal/abi.NoEscape"], recurses := true, apart := false, narrowed := true }
def FnMakeFormUptoSaid : Prop := fnMakeFormUptoRow.holds Try.pinned (OpenSpec.upto fnMakeFormSpec)

/-- 'laws.FnParts', WHERE WHAT IT READS IS OF BULK AT MOST 1048576: true; the input reads as it did. -/
def fnPartsUptoRow : OpenClaim := { program := "ytclpcgkfgbkjmaa", sum := "18c4df0756f4ee5aba65c548268cbcc0cec6586f98e95c365c5be41203d6c7cf", func := "loop.example/typedassembly/laws.FnParts", spec := "fnParts", inPlace := ["internal/abi.NoEscape"], recurses := true, apart := false, narrowed := true }
def FnPartsUptoSaid : Prop := fnPartsUptoRow.holds Try.pinned (OpenSpec.upto fnPartsSpec)

end Rows
end Go.Proofs.Ytclpcgkfgbkjmaa
