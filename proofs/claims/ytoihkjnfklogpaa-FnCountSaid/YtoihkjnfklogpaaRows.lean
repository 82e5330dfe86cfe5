/-
  No cell of these rows narrows 'for every input' (looked for: loops, veiled, ifaces, maps, wideKeys, modest, calm, conditions, laid).
  DERIVED. THE GIVEN ROWS OF THIS SEAT. 4 by the template 'for every input the law returns true; each argument reads behind the call as it read before'; 0 by the template 'total and deterministic' (their statements: YtoihkjnfklogpaaTotals.lean).
  GIVEN WITH THE SEED: the statements are not yours to turn. If you find one false, say at which input.
  Laid BY PROGRAM, IN A SANDBOX (cutbox-rows.mjs): the forced cells as the released guide's own fill.sh prints them over the translation 434512d39356cfc6… (all of the seat's roots in one cut). By AI agents, Wed Nov 11 2026. No macro, syntax, notation, axiom, sorry.
-/
import Derived.Test.YtoihkjnfklogpaaChecked
import GoSem.Claim
import GoSem.ClaimJoined
import GoSem.ClaimMapViews
import Derived.JoinedTies
import Derived.KernelRfl
namespace Go.Proofs.Ytoihkjnfklogpaa
/- THE CELL 'sum', in the pinned program and in every row, IS THE sha256 OF THE DUMP (.gsa) THAT YtoihkjnfklogpaaProg.lean LOADS. Nothing in Lean hashes anything: it is a label: what it is worth is what the hold of that sum in a sandbox is worth. -/
noncomputable def Try.pinned : Pinned := { name := "ytoihkjnfklogpaa", sum := "434512d39356cfc6ed74ad205d46a390f0fe41c13f53cfcb93ccd4a684898e03", checked := Try.checked }
namespace Rows
def none {H : Type} : Left H := { results := [], args := [] }

/-- 'laws.FnExactValueIs': WHATEVER THE INPUT: true; the input reads as it did. -/
def fnExactValueIsSpec : ChangeSpec := { name := "fnExactValueIs", fn := fun _ => fun
  | [d] => { results := [.lit (.bool true)], args := [d] }
  | _ => none }
def fnExactValueIsRow : OpenClaim := { program := "ytoihkjnfklogpaa", sum := "434512d39356cfc6ed74ad205d46a390f0fe41c13f53cfcb93ccd4a684898e03", func := "loop.example/typedassembly/laws.FnExactValueIs", spec := "fnExactValueIs", unfollowed := true, recurses := true, apart := false }
def FnExactValueIsSaid : Prop := fnExactValueIsRow.holds Try.pinned (OpenSpec.ofChange fnExactValueIsSpec)

/-- ITS FALSE NEIGHBOUR: 'it returns false'. Refute it at one input. -/
def fnExactValueIsWrong : ChangeSpec := { name := "fnExactValueIs", fn := fun _ => fun
  | [d] => { results := [.lit (.bool false)], args := [d] }
  | _ => none }
def FnExactValueIsWrongFalsely : Prop := fnExactValueIsRow.holds Try.pinned (OpenSpec.ofChange fnExactValueIsWrong)

/-- 'laws.FnExactNormalPath': WHATEVER THE INPUT: true; the input reads as it did. -/
def fnExactNormalPathSpec : ChangeSpec := { name := "fnExactNormalPath", fn := fun _ => fun
  | [d] => { results := [.lit (.bool true)], args := [d] }
  | _ => none }
def fnExactNormalPathRow : OpenClaim := { program := "ytoihkjnfklogpaa", sum := "434512d39356cfc6ed74ad205d46a390f0fe41c13f53cfcb93ccd4a684898e03", func := "loop.example/typedassembly/laws.FnExactNormalPath", spec := "fnExactNormalPath", inPlace := ["internal/abi.NoEscape"], recurses := true, apart := false }
def FnExactNormalPathSaid : Prop := fnExactNormalPathRow.holds Try.pinned (OpenSpec.ofChange fnExactNormalPathSpec)

/-- ITS FALSE NEIGHBOUR: 'it returns false'. Refute it at one input. -/
def fnExactNormalPathWrong : ChangeSpec := { name := "fnExactNormalPath", fn := fun _ => fun
  | [d] => { results := [.lit (.bool false)], args := [d] }
  | _ => none }
def FnExactNormalPathWrongFalsely : Prop := fnExactNormalPathRow.holds Try.pinned (OpenSpec.ofChange fnExactNormalPathWrong)

/-- 'laws.FnExactExprAlike': WHATEVER THE INPUT: true; the input reads as it did. -/
def fnExactExprAlikeSpec : ChangeSpec := { name := "fnExactExprAlike", fn := fun _ => fun
  | [d1, d2] => { results := [.lit (.bool true)], args := [d1, d2] }
  | _ => none }
def fnExactExprAlikeRow : OpenClaim := { program := "ytoihkjnfklogpaa", sum := "434512d39356cfc6ed74ad205d46a390f0fe41c13f53cfcb93ccd4a684898e03", func := "loop.example/typedassembly/laws.FnExactExprAlike", spec := "fnExactExprAlike", unfollowed := true, recurses := true, apart := false }
def FnExactExprAlikeSaid : Prop := fnExactExprAlikeRow.holds Try.pinned (OpenSpec.ofChange fnExactExprAlikeSpec)

/-- ITS FALSE NEIGHBOUR: 'it returns false'. Refute it at one input. -/
def fnExactExprAlikeWrong : ChangeSpec := { name := "fnExactExprAlike", fn := fun _ => fun
  | [d1, d2] => { results := [.lit (.bool false)], args := [d1, d2] }
  | _ => none }
def FnExactExprAlikeWrongFalsely : Prop := fnExactExprAlikeRow.holds Try.pinned (OpenSpec.ofChange fnExactExprAlikeWrong)

/-- 'laws.FnCount': WHATEVER THE INPUT: true; the input reads as it did. -/
def fnCountSpec : ChangeSpec := { name := "fnCount", fn := fun _ => fun
  | [d] => { results := [.lit (.bool true)], args := [d] }
  | _ => none }
def fnCountRow : OpenClaim := { program := "ytoihkjnfklogpaa", sum := "434512d39356cfc6ed74ad205d46a390f0fe41c13f53cfcb93ccd4a684898e03", func := "loop.example/typedassembly/laws.FnCount", spec := "fnCount", unfollowed := true, recurses := true, apart := false }
def FnCountSaid : Prop := fnCountRow.holds Try.pinned (OpenSpec.ofChange fnCountSpec)

/-- ITS FALSE NEIGHBOUR: 'it returns false'. Refute it at one input. -/
def fnCountWrong : ChangeSpec := { name := "fnCount", fn := fun _ => fun
  | [d] => { results := [.lit (.bool false)], args := [d] }
  | _ => none }
def FnCountWrongFalsely : Prop := fnCountRow.holds Try.pinned (OpenSpec.ofChange fnCountWrong)

/- THE SECOND FORM. 'bulk': how many values and letters a reading holds, each counted each time it is reached (what is shared counts as often as it is met; a slice's spare places count too). A statement '..UptoSaid' is the law's where the arguments, and the package variables that the reading takes, are together of bulk at most 1048576: NARROWER than '..Said'. Prove '..Said' where nothing that the law and all that it calls make is longer than what came in: it says more and counts as full. Else prove '..UptoSaid'. A law counts once. -/
mutual
def uptoBulk {H : Type} : DataW H → Nat
  | .lit (.string bytes) => bytes.length + 1
  | .lit _ => 1
  | .nil => 1
  | .ptr d => uptoBulk d + 1
  | .slice elems spare => uptoBulkAll elems + uptoBulkAll spare + 1
  | .agg parts => uptoBulkAll parts + 1
  | .iface _ d => uptoBulk d + 1
  | .map entries => uptoBulkEntries entries + 1
  | .held _ => 1
def uptoBulkAll {H : Type} : List (DataW H) → Nat
  | [] => 0
  | d :: r => uptoBulk d + uptoBulkAll r
def uptoBulkEntries {H : Type} : List (Lit × DataW H) → Nat
  | [] => 0
  | x :: r => uptoBulkEntry x + uptoBulkEntries r
def uptoBulkEntry {H : Type} : Lit × DataW H → Nat
  | (.string bytes, d) => bytes.length + uptoBulk d + 1
  | (_, d) => uptoBulk d + 1
 end
def uptoSmall : (H : Type) → List (DataW H) → Bool := fun _ ds => decide (uptoBulkAll ds ≤ 1048576)
def OpenSpec.upto (s : _root_.Go.ChangeSpec) : _root_.Go.OpenSpec := { _root_.Go.OpenSpec.ofChange s with cond := some uptoSmall }

/-- 'laws.FnExactValueIs', WHERE WHAT IT READS IS OF BULK AT MOST 1048576: true; the input reads as it did. -/
def fnExactValueIsUptoRow : OpenClaim := { program := "ytoihkjnfklogpaa", sum := "434512d39356cfc6ed74ad205d46a390f0fe41c13f53cfcb93ccd4a684898e03", func := "loop.example/typedassembly/laws.FnExactValueIs", spec := "fnExactValueIs", unfollowed := true, recurses := true, apart := false, narrowed := true }
def FnExactValueIsUptoSaid : Prop := fnExactValueIsUptoRow.holds Try.pinned (OpenSpec.upto fnExactValueIsSpec)

/-- 'laws.FnExactNormalPath', WHERE WHAT IT READS IS OF BULK AT MOST 1048576: true; the input reads as it did. -/
def fnExactNormalPathUptoRow : OpenClaim := { program := "ytoihkjnfklogpaa", sum := "434512d39356cfc6ed74ad205d46a390f0fe41c13f53cfcb93ccd4a684898e03", func := "loop.example/typedassembly/laws.FnExactNormalPath", spec := "fnExactNormalPath", inPlace := ["internal/abi.NoEscape"], recurses := true, apart := false, narrowed := true }
def FnExactNormalPathUptoSaid : Prop := fnExactNormalPathUptoRow.holds Try.pinned (OpenSpec.upto fnExactNormalPathSpec)

/-- 'laws.FnExactExprAlike', WHERE WHAT IT READS IS OF BULK AT MOST 1048576: true; the input reads as it did. -/
def fnExactExprAlikeUptoRow : OpenClaim := { program := "ytoihkjnfklogpaa", sum := "434512d39356cfc6ed74ad205d46a390f0fe41c13f53cfcb93ccd4a684898e03", func := "loop.example/typedassembly/laws.FnExactExprAlike", spec := "fnExactExprAlike", unfollowed := true, recurses := true, apart := false, narrowed := true }
def FnExactExprAlikeUptoSaid : Prop := fnExactExprAlikeUptoRow.holds Try.pinned (OpenSpec.upto fnExactExprAlikeSpec)

/-- 'laws.FnCount', WHERE WHAT IT READS IS OF BULK AT MOST 1048576: true; the input reads as it did. -/
def fnCountUptoRow : OpenClaim := { program := "ytoihkjnfklogpaa", sum := "434512d39356cfc6ed74ad205d46a390f0fe41c13f53cfcb93ccd4a684898e03", func := "loop.example/typedassembly/laws.FnCount", spec := "fnCount", unfollowed := true, recurses := true, apart := false, narrowed := true }
def FnCountUptoSaid : Prop := fnCountUptoRow.holds Try.pinned (OpenSpec.upto fnCountSpec)

end Rows
end Go.Proofs.Ytoihkjnfklogpaa
