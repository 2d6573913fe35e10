/-
  No cell of these rows narrows 'for every input' (looked for: loops, veiled, ifaces, maps, wideKeys, modest, calm, conditions, laid).
  DERIVED. THE GIVEN ROWS OF THIS SEAT. 8 by the template 'for every input the law returns true; each argument reads behind the call as it read before'; 0 by the template 'total and deterministic' (their statements: YtcphdmhcpjfedaaTotals.lean).
  GIVEN WITH THE SEED: the statements are not yours to turn. If you find one false, say at which input.
  Laid BY PROGRAM, IN A SANDBOX (cutbox-rows.mjs): the forced cells as the released guide's own fill.sh prints them over the translation 9bb551aba413f555… (all of the seat's roots in one cut). By AI agents, Wed Nov 11 2026. No macro, syntax, notation, axiom, sorry.
-/
import Derived.Test.YtcphdmhcpjfedaaChecked
import GoSem.Claim
import GoSem.ClaimJoined
import GoSem.ClaimMapViews
import Derived.JoinedTies
import Derived.KernelRfl
namespace Go.Proofs.Ytcphdmhcpjfedaa
/- THE CELL 'sum', in the pinned program and in every row, IS THE sha256 OF THE DUMP (.gsa) THAT YtcphdmhcpjfedaaProg.lean LOADS. Nothing in Lean hashes anything: it is a label: what it is worth is what the hold of that sum in a sandbox is worth. -/
noncomputable def Try.pinned : Pinned := { name := "ytcphdmhcpjfedaa", sum := "9bb551aba413f555c8ce047daaa367e7443bb445aad4b71e5ba78aafe7d762f8", checked := Try.checked }
namespace Rows
def none {H : Type} : Left H := { results := [], args := [] }

/-- 'laws.FnExactClassNumber': WHATEVER THE INPUT: true; the input reads as it did. -/
def fnExactClassNumberSpec : ChangeSpec := { name := "fnExactClassNumber", fn := fun _ => fun
  | [d] => { results := [.lit (.bool true)], args := [d] }
  | _ => none }
def fnExactClassNumberRow : OpenClaim := { program := "ytcphdmhcpjfedaa", sum := "9bb551aba413f555c8ce047daaa367e7443bb445aad4b71e5ba78aafe7d762f8", func := "loop.example/g01297/laws.FnExactClassNumber", spec := "fnExactClassNumber", plainKeys := false, apart := false }
def FnExactClassNumberSaid : Prop := fnExactClassNumberRow.holds Try.pinned (OpenSpec.ofChange fnExactClassNumberSpec)

/-- ITS FALSE NEIGHBOUR: 'it returns false'. Refute it at one input. -/
def fnExactClassNumberWrong : ChangeSpec := { name := "fnExactClassNumber", fn := fun _ => fun
  | [d] => { results := [.lit (.bool false)], args := [d] }
  | _ => none }
def FnExactClassNumberWrongFalsely : Prop := fnExactClassNumberRow.holds Try.pinned (OpenSpec.ofChange fnExactClassNumberWrong)

/-- 'laws.FnExactOrderOfMultiples': WHATEVER THE INPUT: true; the input reads as it did. -/
def fnExactOrderOfMultiplesSpec : ChangeSpec := { name := "fnExactOrderOfMultiples", fn := fun _ => fun
  | [d1, d2, d3] => { results := [.lit (.bool true)], args := [d1, d2, d3] }
  | _ => none }
def fnExactOrderOfMultiplesRow : OpenClaim := { program := "ytcphdmhcpjfedaa", sum := "9bb551aba413f555c8ce047daaa367e7443bb445aad4b71e5ba78aafe7d762f8", func := "loop.example/g01297/laws.FnExactOrderOfMultiples", spec := "fnExactOrderOfMultiples", unfollowed := true, recurses := true, plainKeys := false, apart := false }
def FnExactOrderOfMultiplesSaid : Prop := fnExactOrderOfMultiplesRow.holds Try.pinned (OpenSpec.ofChange fnExactOrderOfMultiplesSpec)

/-- ITS FALSE NEIGHBOUR: 'it returns false'. Refute it at one input. -/
def fnExactOrderOfMultiplesWrong : ChangeSpec := { name := "fnExactOrderOfMultiples", fn := fun _ => fun
  | [d1, d2, d3] => { results := [.lit (.bool false)], args := [d1, d2, d3] }
  | _ => none }
def FnExactOrderOfMultiplesWrongFalsely : Prop := fnExactOrderOfMultiplesRow.holds Try.pinned (OpenSpec.ofChange fnExactOrderOfMultiplesWrong)

/-- 'laws.FnExactGapsOf': WHATEVER THE INPUT: true; the input reads as it did. -/
def fnExactGapsOfSpec : ChangeSpec := { name := "fnExactGapsOf", fn := fun _ => fun
  | [d1, d2, d3] => { results := [.lit (.bool true)], args := [d1, d2, d3] }
  | _ => none }
def fnExactGapsOfRow : OpenClaim := { program := "ytcphdmhcpjfedaa", sum := "9bb551aba413f555c8ce047daaa367e7443bb445aad4b71e5ba78aafe7d762f8", func := "loop.example/g01297/laws.FnExactGapsOf", spec := "fnExactGapsOf", unfollowed := true, recurses := true, plainKeys := false, apart := false }
def FnExactGapsOfSaid : Prop := fnExactGapsOfRow.holds Try.pinned (OpenSpec.ofChange fnExactGapsOfSpec)

/-- ITS FALSE NEIGHBOUR: 'it returns false'. Refute it at one input. -/
def fnExactGapsOfWrong : ChangeSpec := { name := "fnExactGapsOf", fn := fun _ => fun
  | [d1, d2, d3] => { results := [.lit (.bool false)], args := [d1, d2, d3] }
  | _ => none }
def FnExactGapsOfWrongFalsely : Prop := fnExactGapsOfRow.holds Try.pinned (OpenSpec.ofChange fnExactGapsOfWrong)

/-- 'laws.FnForms': WHATEVER THE INPUT: true; the input reads as it did. -/
def fnFormsSpec : ChangeSpec := { name := "fnForms", fn := fun _ => fun
  | [d] => { results := [.lit (.bool true)], args := [d] }
  | _ => none }
def fnFormsRow : OpenClaim := { program := "ytcphdmhcpjfedaa", sum := "9bb551aba413f555c8ce047daaa367e7443bb445aad4b71e5ba78aafe7d762f8", func := "loop.example/g01297/laws.FnForms", spec := "fnForms", unfollowed := true, recurses := true, plainKeys := false, apart := false }
def FnFormsSaid : Prop := fnFormsRow.holds Try.pinned (OpenSpec.ofChange fnFormsSpec)

/-- ITS FALSE NEIGHBOUR: 'it returns false'. Refute it at one input. -/
def fnFormsWrong : ChangeSpec := { name := "fnForms", fn := fun _ => fun
  | [d] => { results := [.lit (.bool false)], args := [d] }
  | _ => none }
def FnFormsWrongFalsely : Prop := fnFormsRow.holds Try.pinned (OpenSpec.ofChange fnFormsWrong)

/-- 'laws.FnGaps': WHATEVER THE INPUT: true; the input reads as it did. -/
def fnGapsSpec : ChangeSpec := { name := "fnGaps", fn := fun _ => fun
  | [d] => { results := [.lit (.bool true)], args := [d] }
  | _ => none }
def fnGapsRow : OpenClaim := { program := "ytcphdmhcpjfedaa", sum := "9bb551aba413f555c8ce047daaa367e7443bb445aad4b71e5ba78aafe7d762f8", func := "loop.example/g01297/laws.FnGaps", spec := "fnGaps", unfollowed := true, recurses := true, plainKeys := false, apart := false }
def FnGapsSaid : Prop := fnGapsRow.holds Try.pinned (OpenSpec.ofChange fnGapsSpec)

/-- ITS FALSE NEIGHBOUR: 'it returns false'. Refute it at one input. -/
def fnGapsWrong : ChangeSpec := { name := "fnGaps", fn := fun _ => fun
  | [d] => { results := [.lit (.bool false)], args := [d] }
  | _ => none }
def FnGapsWrongFalsely : Prop := fnGapsRow.holds Try.pinned (OpenSpec.ofChange fnGapsWrong)

/-- 'laws.FnTriangles': WHATEVER THE INPUT: true; the input reads as it did. -/
def fnTrianglesSpec : ChangeSpec := { name := "fnTriangles", fn := fun _ => fun
  | [d] => { results := [.lit (.bool true)], args := [d] }
  | _ => none }
def fnTrianglesRow : OpenClaim := { program := "ytcphdmhcpjfedaa", sum := "9bb551aba413f555c8ce047daaa367e7443bb445aad4b71e5ba78aafe7d762f8", func := "loop.example/g01297/laws.FnTriangles", spec := "fnTriangles", unfollowed := true, recurses := true, plainKeys := false, apart := false }
def FnTrianglesSaid : Prop := fnTrianglesRow.holds Try.pinned (OpenSpec.ofChange fnTrianglesSpec)

/-- ITS FALSE NEIGHBOUR: 'it returns false'. Refute it at one input. -/
def fnTrianglesWrong : ChangeSpec := { name := "fnTriangles", fn := fun _ => fun
  | [d] => { results := [.lit (.bool false)], args := [d] }
  | _ => none }
def FnTrianglesWrongFalsely : Prop := fnTrianglesRow.holds Try.pinned (OpenSpec.ofChange fnTrianglesWrong)

/-- 'laws.FnExactTrianglesOfArea': WHATEVER THE INPUT: true; the input reads as it did. -/
def fnExactTrianglesOfAreaSpec : ChangeSpec := { name := "fnExactTrianglesOfArea", fn := fun _ => fun
  | [d] => { results := [.lit (.bool true)], args := [d] }
  | _ => none }
def fnExactTrianglesOfAreaRow : OpenClaim := { program := "ytcphdmhcpjfedaa", sum := "9bb551aba413f555c8ce047daaa367e7443bb445aad4b71e5ba78aafe7d762f8", func := "loop.example/g01297/laws.FnExactTrianglesOfArea", spec := "fnExactTrianglesOfArea", unfollowed := true, recurses := true, plainKeys := false, apart := false }
def FnExactTrianglesOfAreaSaid : Prop := fnExactTrianglesOfAreaRow.holds Try.pinned (OpenSpec.ofChange fnExactTrianglesOfAreaSpec)

/-- ITS FALSE NEIGHBOUR: 'it returns false'. Refute it at one input. -/
def fnExactTrianglesOfAreaWrong : ChangeSpec := { name := "fnExactTrianglesOfArea", fn := fun _ => fun
  | [d] => { results := [.lit (.bool false)], args := [d] }
  | _ => none }
def FnExactTrianglesOfAreaWrongFalsely : Prop := fnExactTrianglesOfAreaRow.holds Try.pinned (OpenSpec.ofChange fnExactTrianglesOfAreaWrong)

/-- 'laws.FnShapes': WHATEVER THE INPUT: true; the input reads as it did. -/
def fnShapesSpec : ChangeSpec := { name := "fnShapes", fn := fun _ => fun
  | [d] => { results := [.lit (.bool true)], args := [d] }
  | _ => none }
def fnShapesRow : OpenClaim := { program := "ytcphdmhcpjfedaa", sum := "9bb551aba413f555c8ce047daaa367e7443bb445aad4b71e5ba78aafe7d762f8", func := "loop.example/g01297/laws.FnShapes", spec := "fnShapes", unfollowed := true, recurses := true, plainKeys := false, apart := false }
def FnShapesSaid : Prop := fnShapesRow.holds Try.pinned (OpenSpec.ofChange fnShapesSpec)

/-- ITS FALSE NEIGHBOUR: 'it returns false'. Refute it at one input. -/
def fnShapesWrong : ChangeSpec := { name := "fnShapes", fn := fun _ => fun
  | [d] => { results := [.lit (.bool false)], args := [d] }
  | _ => none }
def FnShapesWrongFalsely : Prop := fnShapesRow.holds Try.pinned (OpenSpec.ofChange fnShapesWrong)

/- THE SECOND FORM. 'bulk': how many values and letters a reading holds, each counted each time it is reached (what is shared counts as often as it is met; a slice's spare places count too). A statement '..UptoSaid' is the law's where the arguments, and the package variables that the reading takes, are together of bulk at most 1048576: NARROWER than '..Said'. Prove '..Said' where nothing that the law and all that it calls make is longer than what came in: it says more and counts as full. Else prove '..UptoSaid'. A law counts once. -/
mutual
def uptoBulk {H : Type} : DataW H → Nat
  | .lit (.string bytes) => bytes.length + 1
  | .lit _ => 1
  | .nil => 1
  | .ptr d => uptoBulk d + 1
  | .slice elems spare => uptoBulkAll elems + uptoBulkAll spare + 1
  | .agg parts => uptoBulkAll parts + 1
  | .iface _ d => uptoBulk d + 1
  | .map entries => uptoBulkEntries entries + 1
  | .held _ => 1
def uptoBulkAll {H : Type} : List (DataW H) → Nat
  | [] => 0
  | d :: r => uptoBulk d + uptoBulkAll r
def uptoBulkEntries {H : Type} : List (Lit × DataW H) → Nat
  | [] => 0
  | x :: r => uptoBulkEntry x + uptoBulkEntries r
def uptoBulkEntry {H : Type} : Lit × DataW H → Nat
  | (.string bytes, d) => bytes.length + uptoBulk d + 1
  | (_, d) => uptoBulk d + 1
 end
def uptoSmall : (H : Type) → List (DataW H) → Bool := fun _ ds => decide (uptoBulkAll ds ≤ 1048576)
def OpenSpec.upto (s : _root_.Go.ChangeSpec) : _root_.Go.OpenSpec := { _root_.Go.OpenSpec.ofChange s with cond := some uptoSmall }

/-- 'laws.FnExactClassNumber', WHERE WHAT IT READS IS OF BULK AT MOST 1048576: true; the input reads as it did. -/
def fnExactClassNumberUptoRow : OpenClaim := { program := "ytcphdmhcpjfedaa", sum := "9bb551aba413f555c8ce047daaa367e7443bb445aad4b71e5ba78aafe7d762f8", func := "loop.example/g01297/laws.FnExactClassNumber", spec := "fnExactClassNumber", plainKeys := false, apart := false, narrowed := true }
def FnExactClassNumberUptoSaid : Prop := fnExactClassNumberUptoRow.holds Try.pinned (OpenSpec.upto fnExactClassNumberSpec)

/-- 'laws.FnExactOrderOfMultiples', WHERE WHAT IT READS IS OF BULK AT MOST 1048576: true; the input reads as it did. -/
def fnExactOrderOfMultiplesUptoRow : OpenClaim := { program := "ytcphdmhcpjfedaa", sum := "9bb551aba413f555c8ce047daaa367e7443bb445aad4b71e5ba78aafe7d762f8", func := "loop.example/g01297/laws.FnExactOrderOfMultiples", spec := "fnExactOrderOfMultiples", unfollowed := true, recurses := true, plainKeys := false, apart := false, narrowed := true }
def FnExactOrderOfMultiplesUptoSaid : Prop := fnExactOrderOfMultiplesUptoRow.holds Try.pinned (OpenSpec.upto fnExactOrderOfMultiplesSpec)

/-- 'laws.FnExactGapsOf', WHERE WHAT IT READS IS OF BULK AT MOST 1048576: true; the input reads as it did. -/
def fnExactGapsOfUptoRow : OpenClaim := { program := "ytcphdmhcpjfedaa", sum := "9bb551aba413f555c8ce047daaa367e7443bb445aad4b71e5ba78aafe7d762f8", func := "loop.example/g01297/laws.FnExactGapsOf", spec := "fnExactGapsOf", unfollowed := true, recurses := true, plainKeys := false, apart := false, narrowed := true }
def FnExactGapsOfUptoSaid : Prop := fnExactGapsOfUptoRow.holds Try.pinned (OpenSpec.upto fnExactGapsOfSpec)

/-- 'laws.FnForms', WHERE WHAT IT READS IS OF BULK AT MOST 1048576: true; the input reads as it did. -/
def fnFormsUptoRow : OpenClaim := { program := "ytcphdmhcpjfedaa", sum := "9bb551aba413f555c8ce047daaa367e7443bb445aad4b71e5ba78aafe7d762f8", func := "loop.example/g01297/laws.FnForms", spec := "fnForms", unfollowed := true, recurses := true, plainKeys := false, apart := false, narrowed := true }
def FnFormsUptoSaid : Prop := fnFormsUptoRow.holds Try.pinned (OpenSpec.upto fnFormsSpec)

/-- 'laws.FnGaps', WHERE WHAT IT READS IS OF BULK AT MOST 1048576: true; the input reads as it did. -/
def fnGapsUptoRow : OpenClaim := { program := "ytcphdmhcpjfedaa", sum := "9bb551aba413f555c8ce047daaa367e7443bb445aad4b71e5ba78aafe7d762f8", func := "loop.example/g01297/laws.FnGaps", spec := "fnGaps", unfollowed := true, recurses := true, plainKeys := false, apart := false, narrowed := true }
def FnGapsUptoSaid : Prop := fnGapsUptoRow.holds Try.pinned (OpenSpec.upto fnGapsSpec)

/-- 'laws.FnTriangles', WHERE WHAT IT READS IS OF BULK AT MOST 1048576: true; the input reads as it did. -/
def fnTrianglesUptoRow : OpenClaim := { program := "ytcphdmhcpjfedaa", sum := "9bb551aba413f555c8ce047daaa367e7443bb445aad4b71e5ba78aafe7d762f8", func := "loop.example/g01297/laws.FnTriangles", spec := "fnTriangles", unfollowed := true, recurses := true, plainKeys := false, apart := false, narrowed := true }
def FnTrianglesUptoSaid : Prop := fnTrianglesUptoRow.holds Try.pinned (OpenSpec.upto fnTrianglesSpec)

/-- 'laws.FnExactTrianglesOfArea', WHERE WHAT IT READS IS OF BULK AT MOST 1048576: true; the input reads as it did. -/
def fnExactTrianglesOfAreaUptoRow : OpenClaim := { program := "ytcphdmhcpjfedaa", sum := "9bb551aba413f555c8ce047daaa367e7443bb445aad4b71e5ba78aafe7d762f8", func := "loop.example/g01297/laws.FnExactTrianglesOfArea", spec := "fnExactTrianglesOfArea", unfollowed := true, recurses := true, plainKeys := false, apart := false, narrowed := true }
def FnExactTrianglesOfAreaUptoSaid : Prop := fnExactTrianglesOfAreaUptoRow.holds Try.pinned (OpenSpec.upto fnExactTrianglesOfAreaSpec)

/-- 'laws.FnShapes', WHERE WHAT IT READS IS OF BULK AT MOST 1048576: true; the input reads as it did. -/
def fnShapesUptoRow : OpenClaim := { program := "ytcphdmhcpjfedaa", sum := "9bb551aba413f555c8ce047daaa367e7443bb445aad4b71e5ba78aafe7d762f8", func := "loop.example/g01297/laws.FnShapes", spec := "fnShapes", unfollowed := true, recurses := true, plainKeys := false, apart := false, narrowed := true }
def FnShapesUptoSaid : Prop := fnShapesUptoRow.holds Try.pinned (OpenSpec.upto fnShapesSpec)

end Rows
end Go.Proofs.Ytcphdmhcpjfedaa
