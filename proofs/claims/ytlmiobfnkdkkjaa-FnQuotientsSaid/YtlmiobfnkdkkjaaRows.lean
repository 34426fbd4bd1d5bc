/-
  No cell of these rows narrows 'for every input' (looked for: loops, veiled, ifaces, maps, wideKeys, modest, calm, conditions, laid).
  DERIVED. THE GIVEN ROWS OF THIS SEAT. 4 by the template 'for every input the law returns true; each argument reads behind the call as it read before'; 0 by the template 'total and deterministic' (their statements: YtlmiobfnkdkkjaaTotals.lean).
  GIVEN WITH THE SEED: the statements are not yours to turn. If you find one false, say at which input.
  Laid BY PROGRAM, IN A SANDBOX (cutbox-rows.mjs): the forced cells as the released guide's own fill.sh prints them over the translation 7c28a932b7f5a754… (all of the seat's roots in one cut). By AI agents, Wed Nov 11 2026. No macro, syntax, notation, axiom, sorry.
-/
import Derived.Test.YtlmiobfnkdkkjaaChecked
import GoSem.Claim
import GoSem.ClaimJoined
import GoSem.ClaimMapViews
import Derived.JoinedTies
import Derived.KernelRfl
namespace Go.Proofs.Ytlmiobfnkdkkjaa
/- THE CELL 'sum', in the pinned program and in every row, IS THE sha256 OF THE DUMP (.gsa) THAT YtlmiobfnkdkkjaaProg.lean LOADS. Nothing in Lean hashes anything: it is a label: what it is worth is what the hold of that sum in a sandbox is worth. -/
noncomputable def Try.pinned : Pinned := { name := "ytlmiobfnkdkkjaa", sum := "7c28a932b7f5a75474a34739d3a5a0bfb1efcbfef425d7db7272b9d5f62a22b9", checked := Try.checked }
namespace Rows
def none {H : Type} : Left H := { results := [], args := [] }

/-- 'laws.FnQuotients': WHATEVER THE INPUT: true; the input reads as it did. -/
def fnQuotientsSpec : ChangeSpec := { name := "fnQuotients", fn := fun _ => fun
  | [d] => { results := [.lit (.bool true)], args := [d] }
  | _ => none }
def fnQuotientsRow : OpenClaim := { program := "ytlmiobfnkdkkjaa", sum := "7c28a932b7f5a75474a34739d3a5a0bfb1efcbfef425d7db7272b9d5f62a22b9", func := "loop.example/g00115/laws.FnQuotients", spec := "fnQuotients", inPlace := ["math.Float64frombits", "math.Float64bits"], apart := false }
def FnQuotientsSaid : Prop := fnQuotientsRow.holds Try.pinned (OpenSpec.ofChange fnQuotientsSpec)

/-- ITS FALSE NEIGHBOUR: 'it returns false'. Refute it at one input. -/
def fnQuotientsWrong : ChangeSpec := { name := "fnQuotients", fn := fun _ => fun
  | [d] => { results := [.lit (.bool false)], args := [d] }
  | _ => none }
def FnQuotientsWrongFalsely : Prop := fnQuotientsRow.holds Try.pinned (OpenSpec.ofChange fnQuotientsWrong)

/-- 'laws.FnRoots': WHATEVER THE INPUT: true; the input reads as it did. -/
def fnRootsSpec : ChangeSpec := { name := "fnRoots", fn := fun _ => fun
  | [d] => { results := [.lit (.bool true)], args := [d] }
  | _ => none }
def fnRootsRow : OpenClaim := { program := "ytlmiobfnkdkkjaa", sum := "7c28a932b7f5a75474a34739d3a5a0bfb1efcbfef425d7db7272b9d5f62a22b9", func := "loop.example/g00115/laws.FnRoots", spec := "fnRoots", inPlace := ["math.Float64frombits", "math.sqrt", "math.Float64bits"], apart := false }
def FnRootsSaid : Prop := fnRootsRow.holds Try.pinned (OpenSpec.ofChange fnRootsSpec)

/-- ITS FALSE NEIGHBOUR: 'it returns false'. Refute it at one input. -/
def fnRootsWrong : ChangeSpec := { name := "fnRoots", fn := fun _ => fun
  | [d] => { results := [.lit (.bool false)], args := [d] }
  | _ => none }
def FnRootsWrongFalsely : Prop := fnRootsRow.holds Try.pinned (OpenSpec.ofChange fnRootsWrong)

/-- 'laws.FnCompares': WHATEVER THE INPUT: true; the input reads as it did. -/
def fnComparesSpec : ChangeSpec := { name := "fnCompares", fn := fun _ => fun
  | [d] => { results := [.lit (.bool true)], args := [d] }
  | _ => none }
def fnComparesRow : OpenClaim := { program := "ytlmiobfnkdkkjaa", sum := "7c28a932b7f5a75474a34739d3a5a0bfb1efcbfef425d7db7272b9d5f62a22b9", func := "loop.example/g00115/laws.FnCompares", spec := "fnCompares", inPlace := ["math.Float64frombits", "math.Float64bits"], apart := false }
def FnComparesSaid : Prop := fnComparesRow.holds Try.pinned (OpenSpec.ofChange fnComparesSpec)

/-- ITS FALSE NEIGHBOUR: 'it returns false'. Refute it at one input. -/
def fnComparesWrong : ChangeSpec := { name := "fnCompares", fn := fun _ => fun
  | [d] => { results := [.lit (.bool false)], args := [d] }
  | _ => none }
def FnComparesWrongFalsely : Prop := fnComparesRow.holds Try.pinned (OpenSpec.ofChange fnComparesWrong)

/-- 'laws.FnExactDoBinary': WHATEVER THE INPUT: true; the input reads as it did. -/
def fnExactDoBinarySpec : ChangeSpec := { name := "fnExactDoBinary", fn := fun _ => fun
  | [d1, d2, d3] => { results := [.lit (.bool true)], args := [d1, d2, d3] }
  | _ => none }
def fnExactDoBinaryRow : OpenClaim := { program := "ytlmiobfnkdkkjaa", sum := "7c28a932b7f5a75474a34739d3a5a0bfb1efcbfef425d7db7272b9d5f62a22b9", func := "loop.example/g00115/laws.FnExactDoBinary", spec := "fnExactDoBinary", inPlace := ["math.Float64frombits", "math.Float64bits"], apart := false }
def FnExactDoBinarySaid : Prop := fnExactDoBinaryRow.holds Try.pinned (OpenSpec.ofChange fnExactDoBinarySpec)

/-- ITS FALSE NEIGHBOUR: 'it returns false'. Refute it at one input. -/
def fnExactDoBinaryWrong : ChangeSpec := { name := "fnExactDoBinary", fn := fun _ => fun
  | [d1, d2, d3] => { results := [.lit (.bool false)], args := [d1, d2, d3] }
  | _ => none }
def FnExactDoBinaryWrongFalsely : Prop := fnExactDoBinaryRow.holds Try.pinned (OpenSpec.ofChange fnExactDoBinaryWrong)

/- THE SECOND FORM. 'bulk': how many values and letters a reading holds, each counted each time it is reached (what is shared counts as often as it is met; a slice's spare places count too). A statement '..UptoSaid' is the law's where the arguments, and the package variables that the reading takes, are together of bulk at most 1048576: NARROWER than '..Said'. Prove '..Said' where nothing that the law and all that it calls make is longer than what came in: it says more and counts as full. Else prove '..UptoSaid'. A law counts once. -/
mutual
def uptoBulk {H : Type} : DataW H → Nat
  | .lit (.string bytes) => bytes.length + 1
  | .lit _ => 1
  | .nil => 1
  | .ptr d => uptoBulk d + 1
  | .slice elems spare => uptoBulkAll elems + uptoBulkAll spare + 1
  | .agg parts => uptoBulkAll parts + 1
  | .iface _ d => uptoBulk d + 1
  | .map entries => uptoBulkEntries entries + 1
  | .held _ => 1
def uptoBulkAll {H : Type} : List (DataW H) → Nat
  | [] => 0
  | d :: r => uptoBulk d + uptoBulkAll r
def uptoBulkEntries {H : Type} : List (Lit × DataW H) → Nat
  | [] => 0
  | x :: r => uptoBulkEntry x + uptoBulkEntries r
def uptoBulkEntry {H : Type} : Lit × DataW H → Nat
  | (.string bytes, d) => bytes.length + uptoBulk d + 1
  | (_, d) => uptoBulk d + 1
 end
def uptoSmall : (H : Type) → List (DataW H) → Bool := fun _ ds => decide (uptoBulkAll ds ≤ 1048576)
def OpenSpec.upto (s : _root_.Go.ChangeSpec) : _root_.Go.OpenSpec := { _root_.Go.OpenSpec.ofChange s with cond := some uptoSmall }

/-- 'laws.FnQuotients', WHERE WHAT IT READS IS OF BULK AT MOST 1048576: true; the input reads as it did. -/
def fnQuotientsUptoRow : OpenClaim := { program := "ytlmiobfnkdkkjaa", sum := "7c28a932b7f5a75474a34739d3a5a0bfb1efcbfef425d7db7272b9d5f62a22b9", func := "loop.example/g00115/laws.FnQuotients", spec := "fnQuotients", inPlace := ["math.Float64frombits", "math.Float64bits"], apart := false, narrowed := true }
def FnQuotientsUptoSaid : Prop := fnQuotientsUptoRow.holds Try.pinned (OpenSpec.upto fnQuotientsSpec)

/-- 'laws.FnRoots', WHERE WHAT IT READS IS OF BULK AT MOST 1048576: true; the input reads as it did. -/
def fnRootsUptoRow : OpenClaim := { program := "ytlmiobfnkdkkjaa", sum := "7c28a932b7f5a75474a34739d3a5a0bfb1efcbfef425d7db7272b9d5f62a22b9", func := "loop.example/g00115/laws.FnRoots", spec := "fnRoots", inPlace := ["math.Float64frombits", "math.sqrt", "math.Float64bits"], apart := false, narrowed := true }
def FnRootsUptoSaid : Prop := fnRootsUptoRow.holds Try.pinned (OpenSpec.upto fnRootsSpec)

/-- 'laws.FnCompares', WHERE WHAT IT READS IS OF BULK AT MOST 1048576: true; the input reads as it did. -/
def fnComparesUptoRow : OpenClaim := { program := "ytlmiobfnkdkkjaa", sum := "7c28a932b7f5a75474a34739d3a5a0bfb1efcbfef425d7db7272b9d5f62a22b9", func := "loop.example/g00115/laws.FnCompares", spec := "fnCompares", inPlace := ["math.Float64frombits", "math.Float64bits"], apart := false, narrowed := true }
def FnComparesUptoSaid : Prop := fnComparesUptoRow.holds Try.pinned (OpenSpec.upto fnComparesSpec)

/-- 'laws.FnExactDoBinary', WHERE WHAT IT READS IS OF BULK AT MOST 1048576: true; the input reads as it did. -/
def fnExactDoBinaryUptoRow : OpenClaim := { program := "ytlmiobfnkdkkjaa", sum := "7c28a932b7f5a75474a34739d3a5a0bfb1efcbfef425d7db7272b9d5f62a22b9", func := "loop.example/g00115/laws.FnExactDoBinary", spec := "fnExactDoBinary", inPlace := ["math.Float64frombits", "math.Float64bits"], apart := false, narrowed := true }
def FnExactDoBinaryUptoSaid : Prop := fnExactDoBinaryUptoRow.holds Try.pinned (OpenSpec.upto fnExactDoBinarySpec)

end Rows
end Go.Proofs.Ytlmiobfnkdkkjaa
