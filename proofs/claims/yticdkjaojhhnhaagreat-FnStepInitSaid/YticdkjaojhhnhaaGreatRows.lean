/-
  No cell of these rows narrows 'for every input' (looked for: loops, veiled, ifaces, maps, wideKeys, modest, calm, conditions, laid).
  DERIVED. THE GIVEN ROWS OF THIS SEAT. 3 by the template 'for every input the law returns true; each argument reads behind the call as it read before'; 0 by the template 'total and deterministic' (their statements: YticdkjaojhhnhaaGreatTotals.lean).
  GIVEN WITH THE SEED: the statements are not yours to turn. If you find one false, say at which input.
  Laid BY PROGRAM, IN A SANDBOX (cutbox-rows.mjs): the forced cells as the released guide's own fill.sh prints them over the translation f7fae68f9beeac78… (all of the seat's roots in one cut). By AI agents, Wed Nov 11 2026. No macro, syntax, notation, axiom, sorry.
-/
import Derived.Test.YticdkjaojhhnhaaGreatChecked
import GoSem.Claim
import GoSem.ClaimJoined
import GoSem.ClaimMapViews
import Derived.JoinedTies
import Derived.KernelRfl
namespace Go.Proofs.YticdkjaojhhnhaaGreat
/- THE CELL 'sum', in the pinned program and in every row, IS THE sha256 OF THE DUMP (.gsa) THAT YticdkjaojhhnhaaGreatProg.lean LOADS. Nothing in Lean hashes anything: it is a label: what it is worth is what the hold of that sum in a sandbox is worth. -/
noncomputable def Tryz.pinned : Pinned := { name := "yticdkjaojhhnhaagreat", sum := "f7fae68f9beeac78c618fa118c343163c1ce72bb9e66b49d4ac5f76f31166600", checked := Tryz.checked }
namespace Rows
def none {H : Type} : Left H := { results := [], args := [] }

/-- 'laws.FnStepAck': WHATEVER THE INPUT: true; the input reads as it did. -/
def fnStepAckSpec : ChangeSpec := { name := "fnStepAck", fn := fun _ => fun
  | [d] => { results := [.lit (.bool true)], args := [d] }
  | _ => none }
def fnStepAckRow : OpenClaim := { program := "yticdkjaojhhnhaagreat", sum := "f7fae68f9beeac78c618fa118c343163c1ce72bb9e66b49d4ac5f76f31166600", func := "loop.example/capturemonitor/laws.FnStepAck", spec := "fnStepAck", apart := false }
def FnStepAckSaid : Prop := fnStepAckRow.holds Tryz.pinned (OpenSpec.ofChange fnStepAckSpec)

/-- ITS FALSE NEIGHBOUR: 'it returns false'. Refute it at one input. -/
def fnStepAckWrong : ChangeSpec := { name := "fnStepAck", fn := fun _ => fun
  | [d] => { results := [.lit (.bool false)], args := [d] }
  | _ => none }
def FnStepAckWrongFalsely : Prop := fnStepAckRow.holds Tryz.pinned (OpenSpec.ofChange fnStepAckWrong)

/-- 'laws.FnStepInit': WHATEVER THE INPUT: true; the input reads as it did. -/
def fnStepInitSpec : ChangeSpec := { name := "fnStepInit", fn := fun _ => fun
  | [d1, d2] => { results := [.lit (.bool true)], args := [d1, d2] }
  | _ => none }
def fnStepInitRow : OpenClaim := { program := "yticdkjaojhhnhaagreat", sum := "f7fae68f9beeac78c618fa118c343163c1ce72bb9e66b49d4ac5f76f31166600", func := "loop.example/capturemonitor/laws.FnStepInit", spec := "fnStepInit", apart := false }
def FnStepInitSaid : Prop := fnStepInitRow.holds Tryz.pinned (OpenSpec.ofChange fnStepInitSpec)

/-- ITS FALSE NEIGHBOUR: 'it returns false'. Refute it at one input. -/
def fnStepInitWrong : ChangeSpec := { name := "fnStepInit", fn := fun _ => fun
  | [d1, d2] => { results := [.lit (.bool false)], args := [d1, d2] }
  | _ => none }
def FnStepInitWrongFalsely : Prop := fnStepInitRow.holds Tryz.pinned (OpenSpec.ofChange fnStepInitWrong)

/-- 'laws.FnMonitorKnown': WHATEVER THE INPUT: true; the input reads as it did. -/
def fnMonitorKnownSpec : ChangeSpec := { name := "fnMonitorKnown", fn := fun _ => fun
  | [d] => { results := [.lit (.bool true)], args := [d] }
  | _ => none }
def fnMonitorKnownRow : OpenClaim := { program := "yticdkjaojhhnhaagreat", sum := "f7fae68f9beeac78c618fa118c343163c1ce72bb9e66b49d4ac5f76f31166600", func := "loop.example/capturemonitor/laws.FnMonitorKnown", spec := "fnMonitorKnown", apart := false }
def FnMonitorKnownSaid : Prop := fnMonitorKnownRow.holds Tryz.pinned (OpenSpec.ofChange fnMonitorKnownSpec)

/-- ITS FALSE NEIGHBOUR: 'it returns false'. Refute it at one input. -/
def fnMonitorKnownWrong : ChangeSpec := { name := "fnMonitorKnown", fn := fun _ => fun
  | [d] => { results := [.lit (.bool false)], args := [d] }
  | _ => none }
def FnMonitorKnownWrongFalsely : Prop := fnMonitorKnownRow.holds Tryz.pinned (OpenSpec.ofChange fnMonitorKnownWrong)

/- THE SECOND FORM. 'bulk': how many values and letters a reading holds, each counted each time it is reached (what is shared counts as often as it is met; a slice's spare places count too). A statement '..UptoSaid' is the law's where the arguments, and the package variables that the reading takes, are together of bulk at most 1048576: NARROWER than '..Said'. Prove '..Said' where nothing that the law and all that it calls make is longer than what came in: it says more and counts as full. Else prove '..UptoSaid'. A law counts once. -/
mutual
def uptoBulk {H : Type} : DataW H → Nat
  | .lit (.string bytes) => bytes.length + 1
  | .lit _ => 1
  | .nil => 1
  | .ptr d => uptoBulk d + 1
  | .slice elems spare => uptoBulkAll elems + uptoBulkAll spare + 1
  | .agg parts => uptoBulkAll parts + 1
  | .iface _ d => uptoBulk d + 1
  | .map entries => uptoBulkEntries entries + 1
  | .held _ => 1
def uptoBulkAll {H : Type} : List (DataW H) → Nat
  | [] => 0
  | d :: r => uptoBulk d + uptoBulkAll r
def uptoBulkEntries {H : Type} : List (Lit × DataW H) → Nat
  | [] => 0
  | x :: r => uptoBulkEntry x + uptoBulkEntries r
def uptoBulkEntry {H : Type} : Lit × DataW H → Nat
  | (.string bytes, d) => bytes.length + uptoBulk d + 1
  | (_, d) => uptoBulk d + 1
 end
def uptoSmall : (H : Type) → List (DataW H) → Bool := fun _ ds => decide (uptoBulkAll ds ≤ 1048576)
def OpenSpec.upto (s : _root_.Go.ChangeSpec) : _root_.Go.OpenSpec := { _root_.Go.OpenSpec.ofChange s with cond := some uptoSmall }

/-- 'laws.FnStepAck', WHERE WHAT IT READS IS OF BULK AT MOST 1048576: true; the input reads as it did. -/
def fnStepAckUptoRow : OpenClaim := { program := "yticdkjaojhhnhaagreat", sum := "f7fae68f9beeac78c618fa118c343163c1ce72bb9e66b49d4ac5f76f31166600", func := "loop.example/capturemonitor/laws.FnStepAck", spec := "fnStepAck", apart := false, narrowed := true }
def FnStepAckUptoSaid : Prop := fnStepAckUptoRow.holds Tryz.pinned (OpenSpec.upto fnStepAckSpec)

/-- 'laws.FnStepInit', WHERE WHAT IT READS IS OF BULK AT MOST 1048576: true; the input reads as it did. -/
def fnStepInitUptoRow : OpenClaim := { program := "yticdkjaojhhnhaagreat", sum := "f7fae68f9beeac78c618fa118c343163c1ce72bb9e66b49d4ac5f76f31166600", func := "loop.example/capturemonitor/laws.FnStepInit", spec := "fnStepInit", apart := false, narrowed := true }
def FnStepInitUptoSaid : Prop := fnStepInitUptoRow.holds Tryz.pinned (OpenSpec.upto fnStepInitSpec)

/-- 'laws.FnMonitorKnown', WHERE WHAT IT READS IS OF BULK AT MOST 1048576: true; the input reads as it did. -/
def fnMonitorKnownUptoRow : OpenClaim := { program := "yticdkjaojhhnhaagreat", sum := "f7fae68f9beeac78c618fa118c343163c1ce72bb9e66b49d4ac5f76f31166600", func := "loop.example/capturemonitor/laws.FnMonitorKnown", spec := "fnMonitorKnown", apart := false, narrowed := true }
def FnMonitorKnownUptoSaid : Prop := fnMonitorKnownUptoRow.holds Tryz.pinned (OpenSpec.upto fnMonitorKnownSpec)

end Rows
end Go.Proofs.YticdkjaojhhnhaaGreat
