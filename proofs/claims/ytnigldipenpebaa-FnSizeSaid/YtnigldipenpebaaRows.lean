/-
  No cell of these rows narrows 'for every input' (looked for: loops, veiled, ifaces, maps, wideKeys, modest, calm, conditions, laid).
  DERIVED. THE GIVEN ROWS OF THIS SEAT. 12 by the template 'for every input the law returns true; each argument reads behind the call as it read before'; 0 by the template 'total and deterministic' (their statements: YtnigldipenpebaaTotals.lean).
  GIVEN WITH THE SEED: the statements are not yours to turn. If you find one false, say at which input.
  Laid BY PROGRAM, IN A SANDBOX (cutbox-rows.mjs): the forced cells as the released guide's own fill.sh prints them over the translation dff5a089287e83c3… (all of the seat's roots in one cut). By AI agents, Wed Nov 11 2026. No macro, syntax, notation, axiom, sorry.
-/
import Derived.Test.YtnigldipenpebaaChecked
import GoSem.Claim
import GoSem.ClaimJoined
import GoSem.ClaimMapViews
import Derived.JoinedTies
import Derived.KernelRfl
namespace Go.Proofs.Ytnigldipenpebaa
/- THE CELL 'sum', in the pinned program and in every row, IS THE sha256 OF THE DUMP (.gsa) THAT YtnigldipenpebaaProg.lean LOADS. Nothing in Lean hashes anything: it is a label: what it is worth is what the hold of that sum in a sandbox is worth. -/
noncomputable def Try.pinned : Pinned := { name := "ytnigldipenpebaa", sum := "dff5a089287e83c3ae1234c9f592daa3956bc3d6384571ce1c857fdb45ea132a", checked := Try.checked }
namespace Rows
def none {H : Type} : Left H := { results := [], args := [] }

/-- 'laws.FnExactConstants': WHATEVER THE INPUT: true; the input reads as it did. -/
def fnExactConstantsSpec : ChangeSpec := { name := "fnExactConstants", fn := fun _ => fun
  | [] => { results := [.lit (.bool true)], args := [] }
  | _ => none }
def fnExactConstantsRow : OpenClaim := { program := "ytnigldipenpebaa", sum := "dff5a089287e83c3ae1234c9f592daa3956bc3d6384571ce1c857fdb45ea132a", func := "loop.example/typedassembly/laws.FnExactConstants", spec := "fnExactConstants", apart := false }
def FnExactConstantsSaid : Prop := fnExactConstantsRow.holds Try.pinned (OpenSpec.ofChange fnExactConstantsSpec)

/-- ITS FALSE NEIGHBOUR: 'it returns false'. Refute it at one input. -/
def fnExactConstantsWrong : ChangeSpec := { name := "fnExactConstants", fn := fun _ => fun
  | [] => { results := [.lit (.bool false)], args := [] }
  | _ => none }
def FnExactConstantsWrongFalsely : Prop := fnExactConstantsRow.holds Try.pinned (OpenSpec.ofChange fnExactConstantsWrong)

/-- 'laws.FnExactNumberShort': WHATEVER THE INPUT: true; the input reads as it did. -/
def fnExactNumberShortSpec : ChangeSpec := { name := "fnExactNumberShort", fn := fun _ => fun
  | [d] => { results := [.lit (.bool true)], args := [d] }
  | _ => none }
def fnExactNumberShortRow : OpenClaim := { program := "ytnigldipenpebaa", sum := "dff5a089287e83c3ae1234c9f592daa3956bc3d6384571ce1c857fdb45ea132a", func := "loop.example/typedassembly/laws.FnExactNumberShort", spec := "fnExactNumberShort", apart := false }
def FnExactNumberShortSaid : Prop := fnExactNumberShortRow.holds Try.pinned (OpenSpec.ofChange fnExactNumberShortSpec)

/-- ITS FALSE NEIGHBOUR: 'it returns false'. Refute it at one input. -/
def fnExactNumberShortWrong : ChangeSpec := { name := "fnExactNumberShort", fn := fun _ => fun
  | [d] => { results := [.lit (.bool false)], args := [d] }
  | _ => none }
def FnExactNumberShortWrongFalsely : Prop := fnExactNumberShortRow.holds Try.pinned (OpenSpec.ofChange fnExactNumberShortWrong)

/-- 'laws.FnShort': WHATEVER THE INPUT: true; the input reads as it did. -/
def fnShortSpec : ChangeSpec := { name := "fnShort", fn := fun _ => fun
  | [d] => { results := [.lit (.bool true)], args := [d] }
  | _ => none }
def fnShortRow : OpenClaim := { program := "ytnigldipenpebaa", sum := "dff5a089287e83c3ae1234c9f592daa3956bc3d6384571ce1c857fdb45ea132a", func := "loop.example/typedassembly/laws.FnShort", spec := "fnShort", apart := false }
def FnShortSaid : Prop := fnShortRow.holds Try.pinned (OpenSpec.ofChange fnShortSpec)

/-- ITS FALSE NEIGHBOUR: 'it returns false'. Refute it at one input. -/
def fnShortWrong : ChangeSpec := { name := "fnShort", fn := fun _ => fun
  | [d] => { results := [.lit (.bool false)], args := [d] }
  | _ => none }
def FnShortWrongFalsely : Prop := fnShortRow.holds Try.pinned (OpenSpec.ofChange fnShortWrong)

/-- 'laws.FnExactBareIs': WHATEVER THE INPUT: true; the input reads as it did. -/
def fnExactBareIsSpec : ChangeSpec := { name := "fnExactBareIs", fn := fun _ => fun
  | [d] => { results := [.lit (.bool true)], args := [d] }
  | _ => none }
def fnExactBareIsRow : OpenClaim := { program := "ytnigldipenpebaa", sum := "dff5a089287e83c3ae1234c9f592daa3956bc3d6384571ce1c857fdb45ea132a", func := "loop.example/typedassembly/laws.FnExactBareIs", spec := "fnExactBareIs", apart := false }
def FnExactBareIsSaid : Prop := fnExactBareIsRow.holds Try.pinned (OpenSpec.ofChange fnExactBareIsSpec)

/-- ITS FALSE NEIGHBOUR: 'it returns false'. Refute it at one input. -/
def fnExactBareIsWrong : ChangeSpec := { name := "fnExactBareIs", fn := fun _ => fun
  | [d] => { results := [.lit (.bool false)], args := [d] }
  | _ => none }
def FnExactBareIsWrongFalsely : Prop := fnExactBareIsRow.holds Try.pinned (OpenSpec.ofChange fnExactBareIsWrong)

/-- 'laws.FnExactFormValid': WHATEVER THE INPUT: true; the input reads as it did. -/
def fnExactFormValidSpec : ChangeSpec := { name := "fnExactFormValid", fn := fun _ => fun
  | [d] => { results := [.lit (.bool true)], args := [d] }
  | _ => none }
def fnExactFormValidRow : OpenClaim := { program := "ytnigldipenpebaa", sum := "dff5a089287e83c3ae1234c9f592daa3956bc3d6384571ce1c857fdb45ea132a", func := "loop.example/typedassembly/laws.FnExactFormValid", spec := "fnExactFormValid", recurses := true, apart := false }
def FnExactFormValidSaid : Prop := fnExactFormValidRow.holds Try.pinned (OpenSpec.ofChange fnExactFormValidSpec)

/-- ITS FALSE NEIGHBOUR: 'it returns false'. Refute it at one input. -/
def fnExactFormValidWrong : ChangeSpec := { name := "fnExactFormValid", fn := fun _ => fun
  | [d] => { results := [.lit (.bool false)], args := [d] }
  | _ => none }
def FnExactFormValidWrongFalsely : Prop := fnExactFormValidRow.holds Try.pinned (OpenSpec.ofChange fnExactFormValidWrong)

/-- 'laws.FnExactFormDepth': WHATEVER THE INPUT: true; the input reads as it did. -/
def fnExactFormDepthSpec : ChangeSpec := { name := "fnExactFormDepth", fn := fun _ => fun
  | [d] => { results := [.lit (.bool true)], args := [d] }
  | _ => none }
def fnExactFormDepthRow : OpenClaim := { program := "ytnigldipenpebaa", sum := "dff5a089287e83c3ae1234c9f592daa3956bc3d6384571ce1c857fdb45ea132a", func := "loop.example/typedassembly/laws.FnExactFormDepth", spec := "fnExactFormDepth", recurses := true, apart := false }
def FnExactFormDepthSaid : Prop := fnExactFormDepthRow.holds Try.pinned (OpenSpec.ofChange fnExactFormDepthSpec)

/-- ITS FALSE NEIGHBOUR: 'it returns false'. Refute it at one input. -/
def fnExactFormDepthWrong : ChangeSpec := { name := "fnExactFormDepth", fn := fun _ => fun
  | [d] => { results := [.lit (.bool false)], args := [d] }
  | _ => none }
def FnExactFormDepthWrongFalsely : Prop := fnExactFormDepthRow.holds Try.pinned (OpenSpec.ofChange fnExactFormDepthWrong)

/-- 'laws.FnExactFormSize': WHATEVER THE INPUT: true; the input reads as it did. -/
def fnExactFormSizeSpec : ChangeSpec := { name := "fnExactFormSize", fn := fun _ => fun
  | [d] => { results := [.lit (.bool true)], args := [d] }
  | _ => none }
def fnExactFormSizeRow : OpenClaim := { program := "ytnigldipenpebaa", sum := "dff5a089287e83c3ae1234c9f592daa3956bc3d6384571ce1c857fdb45ea132a", func := "loop.example/typedassembly/laws.FnExactFormSize", spec := "fnExactFormSize", recurses := true, apart := false }
def FnExactFormSizeSaid : Prop := fnExactFormSizeRow.holds Try.pinned (OpenSpec.ofChange fnExactFormSizeSpec)

/-- ITS FALSE NEIGHBOUR: 'it returns false'. Refute it at one input. -/
def fnExactFormSizeWrong : ChangeSpec := { name := "fnExactFormSize", fn := fun _ => fun
  | [d] => { results := [.lit (.bool false)], args := [d] }
  | _ => none }
def FnExactFormSizeWrongFalsely : Prop := fnExactFormSizeRow.holds Try.pinned (OpenSpec.ofChange fnExactFormSizeWrong)

/-- 'laws.FnExactTypeValid': WHATEVER THE INPUT: true; the input reads as it did. -/
def fnExactTypeValidSpec : ChangeSpec := { name := "fnExactTypeValid", fn := fun _ => fun
  | [d] => { results := [.lit (.bool true)], args := [d] }
  | _ => none }
def fnExactTypeValidRow : OpenClaim := { program := "ytnigldipenpebaa", sum := "dff5a089287e83c3ae1234c9f592daa3956bc3d6384571ce1c857fdb45ea132a", func := "loop.example/typedassembly/laws.FnExactTypeValid", spec := "fnExactTypeValid", recurses := true, apart := false }
def FnExactTypeValidSaid : Prop := fnExactTypeValidRow.holds Try.pinned (OpenSpec.ofChange fnExactTypeValidSpec)

/-- ITS FALSE NEIGHBOUR: 'it returns false'. Refute it at one input. -/
def fnExactTypeValidWrong : ChangeSpec := { name := "fnExactTypeValid", fn := fun _ => fun
  | [d] => { results := [.lit (.bool false)], args := [d] }
  | _ => none }
def FnExactTypeValidWrongFalsely : Prop := fnExactTypeValidRow.holds Try.pinned (OpenSpec.ofChange fnExactTypeValidWrong)

/-- 'laws.FnExactTypeOrder': WHATEVER THE INPUT: true; the input reads as it did. -/
def fnExactTypeOrderSpec : ChangeSpec := { name := "fnExactTypeOrder", fn := fun _ => fun
  | [d] => { results := [.lit (.bool true)], args := [d] }
  | _ => none }
def fnExactTypeOrderRow : OpenClaim := { program := "ytnigldipenpebaa", sum := "dff5a089287e83c3ae1234c9f592daa3956bc3d6384571ce1c857fdb45ea132a", func := "loop.example/typedassembly/laws.FnExactTypeOrder", spec := "fnExactTypeOrder", recurses := true, apart := false }
def FnExactTypeOrderSaid : Prop := fnExactTypeOrderRow.holds Try.pinned (OpenSpec.ofChange fnExactTypeOrderSpec)

/-- ITS FALSE NEIGHBOUR: 'it returns false'. Refute it at one input. -/
def fnExactTypeOrderWrong : ChangeSpec := { name := "fnExactTypeOrder", fn := fun _ => fun
  | [d] => { results := [.lit (.bool false)], args := [d] }
  | _ => none }
def FnExactTypeOrderWrongFalsely : Prop := fnExactTypeOrderRow.holds Try.pinned (OpenSpec.ofChange fnExactTypeOrderWrong)

/-- 'laws.FnExactFormAtoms': WHATEVER THE INPUT: true; the input reads as it did. -/
def fnExactFormAtomsSpec : ChangeSpec := { name := "fnExactFormAtoms", fn := fun _ => fun
  | [d] => { results := [.lit (.bool true)], args := [d] }
  | _ => none }
def fnExactFormAtomsRow : OpenClaim := { program := "ytnigldipenpebaa", sum := "dff5a089287e83c3ae1234c9f592daa3956bc3d6384571ce1c857fdb45ea132a", func := "loop.example/typedassembly/laws.FnExactFormAtoms", spec := "fnExactFormAtoms", unfollowed := true, recurses := true, apart := false }
def FnExactFormAtomsSaid : Prop := fnExactFormAtomsRow.holds Try.pinned (OpenSpec.ofChange fnExactFormAtomsSpec)

/-- ITS FALSE NEIGHBOUR: 'it returns false'. Refute it at one input. -/
def fnExactFormAtomsWrong : ChangeSpec := { name := "fnExactFormAtoms", fn := fun _ => fun
  | [d] => { results := [.lit (.bool false)], args := [d] }
  | _ => none }
def FnExactFormAtomsWrongFalsely : Prop := fnExactFormAtomsRow.holds Try.pinned (OpenSpec.ofChange fnExactFormAtomsWrong)

/-- 'laws.FnExactTargetValid': WHATEVER THE INPUT: true; the input reads as it did. -/
def fnExactTargetValidSpec : ChangeSpec := { name := "fnExactTargetValid", fn := fun _ => fun
  | [d] => { results := [.lit (.bool true)], args := [d] }
  | _ => none }
def fnExactTargetValidRow : OpenClaim := { program := "ytnigldipenpebaa", sum := "dff5a089287e83c3ae1234c9f592daa3956bc3d6384571ce1c857fdb45ea132a", func := "loop.example/typedassembly/laws.FnExactTargetValid", spec := "fnExactTargetValid", unfollowed := true, recurses := true, apart := false }
def FnExactTargetValidSaid : Prop := fnExactTargetValidRow.holds Try.pinned (OpenSpec.ofChange fnExactTargetValidSpec)

/-- ITS FALSE NEIGHBOUR: 'it returns false'. Refute it at one input. -/
def fnExactTargetValidWrong : ChangeSpec := { name := "fnExactTargetValid", fn := fun _ => fun
  | [d] => { results := [.lit (.bool false)], args := [d] }
  | _ => none }
def FnExactTargetValidWrongFalsely : Prop := fnExactTargetValidRow.holds Try.pinned (OpenSpec.ofChange fnExactTargetValidWrong)

/-- 'laws.FnSize': WHATEVER THE INPUT: true; the input reads as it did. -/
def fnSizeSpec : ChangeSpec := { name := "fnSize", fn := fun _ => fun
  | [d] => { results := [.lit (.bool true)], args := [d] }
  | _ => none }
def fnSizeRow : OpenClaim := { program := "ytnigldipenpebaa", sum := "dff5a089287e83c3ae1234c9f592daa3956bc3d6384571ce1c857fdb45ea132a", func := "loop.example/typedassembly/laws.FnSize", spec := "fnSize", unfollowed := true, recurses := true, apart := false }
def FnSizeSaid : Prop := fnSizeRow.holds Try.pinned (OpenSpec.ofChange fnSizeSpec)

/-- ITS FALSE NEIGHBOUR: 'it returns false'. Refute it at one input. -/
def fnSizeWrong : ChangeSpec := { name := "fnSize", fn := fun _ => fun
  | [d] => { results := [.lit (.bool false)], args := [d] }
  | _ => none }
def FnSizeWrongFalsely : Prop := fnSizeRow.holds Try.pinned (OpenSpec.ofChange fnSizeWrong)

/- THE SECOND FORM. 'bulk': how many values and letters a reading holds, each counted each time it is reached (what is shared counts as often as it is met; a slice's spare places count too). A statement '..UptoSaid' is the law's where the arguments, and the package variables that the reading takes, are together of bulk at most 1048576: NARROWER than '..Said'. Prove '..Said' where nothing that the law and all that it calls make is longer than what came in: it says more and counts as full. Else prove '..UptoSaid'. A law counts once. -/
mutual
def uptoBulk {H : Type} : DataW H → Nat
  | .lit (.string bytes) => bytes.length + 1
  | .lit _ => 1
  | .nil => 1
  | .ptr d => uptoBulk d + 1
  | .slice elems spare => uptoBulkAll elems + uptoBulkAll spare + 1
  | .agg parts => uptoBulkAll parts + 1
  | .iface _ d => uptoBulk d + 1
  | .map entries => uptoBulkEntries entries + 1
  | .held _ => 1
def uptoBulkAll {H : Type} : List (DataW H) → Nat
  | [] => 0
  | d :: r => uptoBulk d + uptoBulkAll r
def uptoBulkEntries {H : Type} : List (Lit × DataW H) → Nat
  | [] => 0
  | x :: r => uptoBulkEntry x + uptoBulkEntries r
def uptoBulkEntry {H : Type} : Lit × DataW H → Nat
  | (.string bytes, d) => bytes.length + uptoBulk d + 1
  | (_, d) => uptoBulk d + 1
 end
def uptoSmall : (H : Type) → List (DataW H) → Bool := fun _ ds => decide (uptoBulkAll ds ≤ 1048576)
def OpenSpec.upto (s : _root_.Go.ChangeSpec) : _root_.Go.OpenSpec := { _root_.Go.OpenSpec.ofChange s with cond := some uptoSmall }

/-- 'laws.FnExactConstants', WHERE WHAT IT READS IS OF BULK AT MOST 1048576: true; the input reads as it did. -/
def fnExactConstantsUptoRow : OpenClaim := { program := "ytnigldipenpebaa", sum := "dff5a089287e83c3ae1234c9f592daa3956bc3d6384571ce1c857fdb45ea132a", func := "loop.example/typedassembly/laws.FnExactConstants", spec := "fnExactConstants", apart := false, narrowed := true }
def FnExactConstantsUptoSaid : Prop := fnExactConstantsUptoRow.holds Try.pinned (OpenSpec.upto fnExactConstantsSpec)

/-- 'laws.FnExactNumberShort', WHERE WHAT IT READS IS OF BULK AT MOST 1048576: true; the input reads as it did. -/
def fnExactNumberShortUptoRow : OpenClaim := { program := "ytnigldipenpebaa", sum := "dff5a089287e83c3ae1234c9f592daa3956bc3d6384571ce1c857fdb45ea132a", func := "loop.example/typedassembly/laws.FnExactNumberShort", spec := "fnExactNumberShort", apart := false, narrowed := true }
def FnExactNumberShortUptoSaid : Prop := fnExactNumberShortUptoRow.holds Try.pinned (OpenSpec.upto fnExactNumberShortSpec)

/-- 'laws.FnShort', WHERE WHAT IT READS IS OF BULK AT MOST 1048576: true; the input reads as it did. -/
def fnShortUptoRow : OpenClaim := { program := "ytnigldipenpebaa", sum := "dff5a089287e83c3ae1234c9f592daa3956bc3d6384571ce1c857fdb45ea132a", func := "loop.example/typedassembly/laws.FnShort", spec := "fnShort", apart := false, narrowed := true }
def FnShortUptoSaid : Prop := fnShortUptoRow.holds Try.pinned (OpenSpec.upto fnShortSpec)

/-- 'laws.FnExactBareIs', WHERE WHAT IT READS IS OF BULK AT MOST 1048576: true; the input reads as it did. -/
def fnExactBareIsUptoRow : OpenClaim := { program := "ytnigldipenpebaa", sum := "dff5a089287e83c3ae1234c9f592daa3956bc3d6384571ce1c857fdb45ea132a", func := "loop.example/typedassembly/laws.FnExactBareIs", spec := "fnExactBareIs", apart := false, narrowed := true }
def FnExactBareIsUptoSaid : Prop := fnExactBareIsUptoRow.holds Try.pinned (OpenSpec.upto fnExactBareIsSpec)

/-- 'laws.FnExactFormValid', WHERE WHAT IT READS IS OF BULK AT MOST 1048576: true; the input reads as it did. -/
def fnExactFormValidUptoRow : OpenClaim := { program := "ytnigldipenpebaa", sum := "dff5a089287e83c3ae1234c9f592daa3956bc3d6384571ce1c857fdb45ea132a", func := "loop.example/typedassembly/laws.FnExactFormValid", spec := "fnExactFormValid", recurses := true, apart := false, narrowed := true }
def FnExactFormValidUptoSaid : Prop := fnExactFormValidUptoRow.holds Try.pinned (OpenSpec.upto fnExactFormValidSpec)

/-- 'laws.FnExactFormDepth', WHERE WHAT IT READS IS OF BULK AT MOST 1048576: true; the input reads as it did. -/
def fnExactFormDepthUptoRow : OpenClaim := { program := "ytnigldipenpebaa", sum := "dff5a089287e83c3ae1234c9f592daa3956bc3d6384571ce1c857fdb45ea132a", func := "loop.example/typedassembly/laws.FnExactFormDepth", spec := "fnExactFormDepth", recurses := true, apart := false, narrowed := true }
def FnExactFormDepthUptoSaid : Prop := fnExactFormDepthUptoRow.holds Try.pinned (OpenSpec.upto fnExactFormDepthSpec)

/-- 'laws.FnExactFormSize', WHERE WHAT IT READS IS OF BULK AT MOST 1048576: true; the input reads as it did. -/
def fnExactFormSizeUptoRow : OpenClaim := { program := "ytnigldipenpebaa", sum := "dff5a089287e83c3ae1234c9f592daa3956bc3d6384571ce1c857fdb45ea132a", func := "loop.example/typedassembly/laws.FnExactFormSize", spec := "fnExactFormSize", recurses := true, apart := false, narrowed := true }
def FnExactFormSizeUptoSaid : Prop := fnExactFormSizeUptoRow.holds Try.pinned (OpenSpec.upto fnExactFormSizeSpec)

/-- 'laws.FnExactTypeValid', WHERE WHAT IT READS IS OF BULK AT MOST 1048576: true; the input reads as it did. -/
def fnExactTypeValidUptoRow : OpenClaim := { program := "ytnigldipenpebaa", sum := "dff5a089287e83c3ae1234c9f592daa3956bc3d6384571ce1c857fdb45ea132a", func := "loop.example/typedassembly/laws.FnExactTypeValid", spec := "fnExactTypeValid", recurses := true, apart := false, narrowed := true }
def FnExactTypeValidUptoSaid : Prop := fnExactTypeValidUptoRow.holds Try.pinned (OpenSpec.upto fnExactTypeValidSpec)

/-- 'laws.FnExactTypeOrder', WHERE WHAT IT READS IS OF BULK AT MOST 1048576: true; the input reads as it did. -/
def fnExactTypeOrderUptoRow : OpenClaim := { program := "ytnigldipenpebaa", sum := "dff5a089287e83c3ae1234c9f592daa3956bc3d6384571ce1c857fdb45ea132a", func := "loop.example/typedassembly/laws.FnExactTypeOrder", spec := "fnExactTypeOrder", recurses := true, apart := false, narrowed := true }
def FnExactTypeOrderUptoSaid : Prop := fnExactTypeOrderUptoRow.holds Try.pinned (OpenSpec.upto fnExactTypeOrderSpec)

/-- 'laws.FnExactFormAtoms', WHERE WHAT IT READS IS OF BULK AT MOST 1048576: true; the input reads as it did. -/
def fnExactFormAtomsUptoRow : OpenClaim := { program := "ytnigldipenpebaa", sum := "dff5a089287e83c3ae1234c9f592daa3956bc3d6384571ce1c857fdb45ea132a", func := "loop.example/typedassembly/laws.FnExactFormAtoms", spec := "fnExactFormAtoms", unfollowed := true, recurses := true, apart := false, narrowed := true }
def FnExactFormAtomsUptoSaid : Prop := fnExactFormAtomsUptoRow.holds Try.pinned (OpenSpec.upto fnExactFormAtomsSpec)

/-- 'laws.FnExactTargetValid', WHERE WHAT IT READS IS OF BULK AT MOST 1048576: true; the input reads as it did. -/
def fnExactTargetValidUptoRow : OpenClaim := { program := "ytnigldipenpebaa", sum := "dff5a089287e83c3ae1234c9f592daa3956bc3d6384571ce1c857fdb45ea132a", func := "loop.example/typedassembly/laws.FnExactTargetValid", spec := "fnExactTargetValid", unfollowed := true, recurses := true, apart := false, narrowed := true }
def FnExactTargetValidUptoSaid : Prop := fnExactTargetValidUptoRow.holds Try.pinned (OpenSpec.upto fnExactTargetValidSpec)

/-- 'laws.FnSize', WHERE WHAT IT READS IS OF BULK AT MOST 1048576: true; the input reads as it did. -/
def fnSizeUptoRow : OpenClaim := { program := "ytnigldipenpebaa", sum := "dff5a089287e83c3ae1234c9f592daa3956bc3d6384571ce1c857fdb45ea132a", func := "loop.example/typedassembly/laws.FnSize", spec := "fnSize", unfollowed := true, recurses := true, apart := false, narrowed := true }
def FnSizeUptoSaid : Prop := fnSizeUptoRow.holds Try.pinned (OpenSpec.upto fnSizeSpec)

end Rows
end Go.Proofs.Ytnigldipenpebaa
