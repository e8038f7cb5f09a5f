/-
  No cell of these rows narrows 'for every input' (looked for: loops, veiled, ifaces, maps, wideKeys, modest, calm, conditions, laid).
  DERIVED. THE GIVEN ROWS OF THIS SEAT. 3 by the template 'for every input the law returns true; each argument reads behind the call as it read before'; 0 by the template 'total and deterministic' (their statements: YtpiafiapjmldgaaTotals.lean).
  GIVEN WITH THE SEED: the statements are not yours to turn. If you find one false, say at which input.
  Laid BY PROGRAM, IN A SANDBOX (cutbox-rows.mjs): the forced cells as the released guide's own fill.sh prints them over the translation f952449fc15b11a0… (all of the seat's roots in one cut). By AI agents, Wed Nov 11 2026. No macro, syntax, notation, axiom, sorry.
-/
import Derived.Test.YtpiafiapjmldgaaChecked
import GoSem.Claim
import GoSem.ClaimJoined
import GoSem.ClaimMapViews
import Derived.JoinedTies
import Derived.KernelRfl
namespace Go.Proofs.Ytpiafiapjmldgaa
/- THE CELL 'sum', in the pinned program and in every row, IS THE sha256 OF THE DUMP (.gsa) THAT YtpiafiapjmldgaaProg.lean LOADS. Nothing in Lean hashes anything: it is a label: what it is worth is what the hold of that sum in a sandbox is worth. -/
noncomputable def Try.pinned : Pinned := { name := "ytpiafiapjmldgaa", sum := "f952449fc15b11a01f7f7a35c6a3c984a02302ba0e29013640adfdd5702d189d", checked := Try.checked }
namespace Rows
def none {H : Type} : Left H := { results := [], args := [] }

/-- 'laws.FnExactFindingsParse': WHATEVER THE INPUT: true; the input reads as it did. -/
def fnExactFindingsParseSpec : ChangeSpec := { name := "fnExactFindingsParse", fn := fun _ => fun
  | [d] => { results := [.lit (.bool true)], args := [d] }
  | _ => none }
def fnExactFindingsParseRow : OpenClaim := { program := "ytpiafiapjmldgaa", sum := "f952449fc15b11a01f7f7a35c6a3c984a02302ba0e29013640adfdd5702d189d", func := "loop.example/capturemonitor/laws.FnExactFindingsParse", spec := "fnExactFindingsParse", inPlace := ["internal/bytealg.IndexByteString", "internal/bytealg.IndexString"], named := ["internal/bytealg.MaxLen"], apart := false }
def FnExactFindingsParseSaid : Prop := fnExactFindingsParseRow.holds Try.pinned (OpenSpec.ofChange fnExactFindingsParseSpec)

/-- ITS FALSE NEIGHBOUR: 'it returns false'. Refute it at one input. -/
def fnExactFindingsParseWrong : ChangeSpec := { name := "fnExactFindingsParse", fn := fun _ => fun
  | [d] => { results := [.lit (.bool false)], args := [d] }
  | _ => none }
def FnExactFindingsParseWrongFalsely : Prop := fnExactFindingsParseRow.holds Try.pinned (OpenSpec.ofChange fnExactFindingsParseWrong)

/-- 'laws.FnFindingsTwice': WHATEVER THE INPUT: true; the input reads as it did. -/
def fnFindingsTwiceSpec : ChangeSpec := { name := "fnFindingsTwice", fn := fun _ => fun
  | [d] => { results := [.lit (.bool true)], args := [d] }
  | _ => none }
def fnFindingsTwiceRow : OpenClaim := { program := "ytpiafiapjmldgaa", sum := "f952449fc15b11a01f7f7a35c6a3c984a02302ba0e29013640adfdd5702d189d", func := "loop.example/capturemonitor/laws.FnFindingsTwice", spec := "fnFindingsTwice", inPlace := ["internal/bytealg.IndexByteString", "internal/bytealg.IndexString"], recurses := true, named := ["internal/bytealg.MaxLen"], apart := false }
def FnFindingsTwiceSaid : Prop := fnFindingsTwiceRow.holds Try.pinned (OpenSpec.ofChange fnFindingsTwiceSpec)

/-- ITS FALSE NEIGHBOUR: 'it returns false'. Refute it at one input. -/
def fnFindingsTwiceWrong : ChangeSpec := { name := "fnFindingsTwice", fn := fun _ => fun
  | [d] => { results := [.lit (.bool false)], args := [d] }
  | _ => none }
def FnFindingsTwiceWrongFalsely : Prop := fnFindingsTwiceRow.holds Try.pinned (OpenSpec.ofChange fnFindingsTwiceWrong)

/-- 'laws.FnFindingsCut': WHATEVER THE INPUT: true; the input reads as it did. -/
def fnFindingsCutSpec : ChangeSpec := { name := "fnFindingsCut", fn := fun _ => fun
  | [d] => { results := [.lit (.bool true)], args := [d] }
  | _ => none }
def fnFindingsCutRow : OpenClaim := { program := "ytpiafiapjmldgaa", sum := "f952449fc15b11a01f7f7a35c6a3c984a02302ba0e29013640adfdd5702d189d", func := "loop.example/capturemonitor/laws.FnFindingsCut", spec := "fnFindingsCut", inPlace := ["internal/bytealg.IndexByteString", "internal/bytealg.IndexString"], recurses := true, named := ["internal/bytealg.MaxLen"], apart := false }
def FnFindingsCutSaid : Prop := fnFindingsCutRow.holds Try.pinned (OpenSpec.ofChange fnFindingsCutSpec)

/-- ITS FALSE NEIGHBOUR: 'it returns false'. Refute it at one input. -/
def fnFindingsCutWrong : ChangeSpec := { name := "fnFindingsCut", fn := fun _ => fun
  | [d] => { results := [.lit (.bool false)], args := [d] }
  | _ => none }
def FnFindingsCutWrongFalsely : Prop := fnFindingsCutRow.holds Try.pinned (OpenSpec.ofChange fnFindingsCutWrong)

/- THE SECOND FORM. 'bulk': how many values and letters a reading holds, each counted each time it is reached (what is shared counts as often as it is met; a slice's spare places count too). A statement '..UptoSaid' is the law's where the arguments, and the package variables that the reading takes, are together of bulk at most 1048576: NARROWER than '..Said'. Prove '..Said' where nothing that the law and all that it calls make is longer than what came in: it says more and counts as full. Else prove '..UptoSaid'. A law counts once. -/
mutual
def uptoBulk {H : Type} : DataW H → Nat
  | .lit (.string bytes) => bytes.length + 1
  | .lit _ => 1
  | .nil => 1
  | .ptr d => uptoBulk d + 1
  | .slice elems spare => uptoBulkAll elems + uptoBulkAll spare + 1
  | .agg parts => uptoBulkAll parts + 1
  | .iface _ d => uptoBulk d + 1
  | .map entries => uptoBulkEntries entries + 1
  | .held _ => 1
def uptoBulkAll {H : Type} : List (DataW H) → Nat
  | [] => 0
  | d :: r => uptoBulk d + uptoBulkAll r
def uptoBulkEntries {H : Type} : List (Lit × DataW H) → Nat
  | [] => 0
  | x :: r => uptoBulkEntry x + uptoBulkEntries r
def uptoBulkEntry {H : Type} : Lit × DataW H → Nat
  | (.string bytes, d) => bytes.length + uptoBulk d + 1
  | (_, d) => uptoBulk d + 1
 end
def uptoSmall : (H : Type) → List (DataW H) → Bool := fun _ ds => decide (uptoBulkAll ds ≤ 1048576)
def OpenSpec.upto (s : _root_.Go.ChangeSpec) : _root_.Go.OpenSpec := { _root_.Go.OpenSpec.ofChange s with cond := some uptoSmall }

/-- 'laws.FnExactFindingsParse', WHERE WHAT IT READS IS OF BULK AT MOST 1048576: true; the input reads as it did. -/
def fnExactFindingsParseUptoRow : OpenClaim := { program := "ytpiafiapjmldgaa", sum := "f952449fc15b11a01f7f7a35c6a3c984a02302ba0e29013640adfdd5702d189d", func := "loop.example/capturemonitor/laws.FnExactFindingsParse", spec := "fnExactFindingsParse", inPlace := ["internal/bytealg.IndexByteString", "internal/bytealg.IndexString"], named := ["internal/bytealg.MaxLen"], apart := false, narrowed := true }
def FnExactFindingsParseUptoSaid : Prop := fnExactFindingsParseUptoRow.holds Try.pinned (OpenSpec.upto fnExactFindingsParseSpec)

/-- 'laws.FnFindingsTwice', WHERE WHAT IT READS IS OF BULK AT MOST 1048576: true; the input reads as it did. -/
def fnFindingsTwiceUptoRow : OpenClaim := { program := "ytpiafiapjmldgaa", sum := "f952449fc15b11a01f7f7a35c6a3c984a02302ba0e29013640adfdd5702d189d", func := "loop.example/capturemonitor/laws.FnFindingsTwice", spec := "fnFindingsTwice", inPlace := ["internal/bytealg.IndexByteString", "internal/bytealg.IndexString"], recurses := true, named := ["internal/bytealg.MaxLen"], apart := false, narrowed := true }
def FnFindingsTwiceUptoSaid : Prop := fnFindingsTwiceUptoRow.holds Try.pinned (OpenSpec.upto fnFindingsTwiceSpec)

/-- 'laws.FnFindingsCut', WHERE WHAT IT READS IS OF BULK AT MOST 1048576: true; the input reads as it did. -/
def fnFindingsCutUptoRow : OpenClaim := { program := "ytpiafiapjmldgaa", sum := "f952449fc15b11a01f7f7a35c6a3c984a02302ba0e29013640adfdd5702d189d", func := "loop.example/capturemonitor/laws.FnFindingsCut", spec := "fnFindingsCut", inPlace := ["internal/bytealg.IndexByteString", "internal/bytealg.IndexString"], recurses := true, named := ["internal/bytealg.MaxLen"], apart := false, narrowed := true }
def FnFindingsCutUptoSaid : Prop := fnFindingsCutUptoRow.holds Try.pinned (OpenSpec.upto fnFindingsCutSpec)

end Rows
end Go.Proofs.Ytpiafiapjmldgaa
