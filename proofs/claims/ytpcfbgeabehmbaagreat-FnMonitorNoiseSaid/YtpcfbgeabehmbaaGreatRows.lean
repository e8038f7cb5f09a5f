/-
  No cell of these rows narrows 'for every input' (looked for: loops, veiled, ifaces, maps, wideKeys, modest, calm, conditions, laid).
  DERIVED. THE GIVEN ROWS OF THIS SEAT. 12 by the template 'for every input the law returns true; each argument reads behind the call as it read before'; 0 by the template 'total and deterministic' (their statements: YtpcfbgeabehmbaaGreatTotals.lean).
  GIVEN WITH THE SEED: the statements are not yours to turn. If you find one false, say at which input.
  Laid BY PROGRAM, IN A SANDBOX (cutbox-rows.mjs): the forced cells as the released guide's own fill.sh prints them over the translation 085576c92394db84… (all of the seat's roots in one cut). By AI agents, Wed Nov 11 2026. No macro, syntax, notation, axiom, sorry.
-/
import Derived.Test.YtpcfbgeabehmbaaGreatChecked
import GoSem.Claim
import GoSem.ClaimJoined
import GoSem.ClaimMapViews
import Derived.JoinedTies
import Derived.KernelRfl
namespace Go.Proofs.YtpcfbgeabehmbaaGreat
/- THE CELL 'sum', in the pinned program and in every row, IS THE sha256 OF THE DUMP (.gsa) THAT YtpcfbgeabehmbaaGreatProg.lean LOADS. Nothing in Lean hashes anything: it is a label: what it is worth is what the hold of that sum in a sandbox is worth. -/
noncomputable def Tryz.pinned : Pinned := { name := "ytpcfbgeabehmbaagreat", sum := "085576c92394db84d58d83bc1a8e5cceb23fffee57ad1b4bc886ec7c9b2aa796", checked := Tryz.checked }
namespace Rows
def none {H : Type} : Left H := { results := [], args := [] }

/-- 'laws.FnMonitorNoise': WHATEVER THE INPUT: true; the input reads as it did. -/
def fnMonitorNoiseSpec : ChangeSpec := { name := "fnMonitorNoise", fn := fun _ => fun
  | [d1, d2] => { results := [.lit (.bool true)], args := [d1, d2] }
  | _ => none }
def fnMonitorNoiseRow : OpenClaim := { program := "ytpcfbgeabehmbaagreat", sum := "085576c92394db84d58d83bc1a8e5cceb23fffee57ad1b4bc886ec7c9b2aa796", func := "loop.example/capturemonitor/laws.FnMonitorNoise", spec := "fnMonitorNoise", apart := false }
def FnMonitorNoiseSaid : Prop := fnMonitorNoiseRow.holds Tryz.pinned (OpenSpec.ofChange fnMonitorNoiseSpec)

/-- ITS FALSE NEIGHBOUR: 'it returns false'. Refute it at one input. -/
def fnMonitorNoiseWrong : ChangeSpec := { name := "fnMonitorNoise", fn := fun _ => fun
  | [d1, d2] => { results := [.lit (.bool false)], args := [d1, d2] }
  | _ => none }
def FnMonitorNoiseWrongFalsely : Prop := fnMonitorNoiseRow.holds Tryz.pinned (OpenSpec.ofChange fnMonitorNoiseWrong)

/-- 'laws.FnMonitorPart': WHATEVER THE INPUT: true; the input reads as it did. -/
def fnMonitorPartSpec : ChangeSpec := { name := "fnMonitorPart", fn := fun _ => fun
  | [d1, d2] => { results := [.lit (.bool true)], args := [d1, d2] }
  | _ => none }
def fnMonitorPartRow : OpenClaim := { program := "ytpcfbgeabehmbaagreat", sum := "085576c92394db84d58d83bc1a8e5cceb23fffee57ad1b4bc886ec7c9b2aa796", func := "loop.example/capturemonitor/laws.FnMonitorPart", spec := "fnMonitorPart", apart := false }
def FnMonitorPartSaid : Prop := fnMonitorPartRow.holds Tryz.pinned (OpenSpec.ofChange fnMonitorPartSpec)

/-- ITS FALSE NEIGHBOUR: 'it returns false'. Refute it at one input. -/
def fnMonitorPartWrong : ChangeSpec := { name := "fnMonitorPart", fn := fun _ => fun
  | [d1, d2] => { results := [.lit (.bool false)], args := [d1, d2] }
  | _ => none }
def FnMonitorPartWrongFalsely : Prop := fnMonitorPartRow.holds Tryz.pinned (OpenSpec.ofChange fnMonitorPartWrong)

/-- 'laws.FnMonitorRun': WHATEVER THE INPUT: true; the input reads as it did. -/
def fnMonitorRunSpec : ChangeSpec := { name := "fnMonitorRun", fn := fun _ => fun
  | [d] => { results := [.lit (.bool true)], args := [d] }
  | _ => none }
def fnMonitorRunRow : OpenClaim := { program := "ytpcfbgeabehmbaagreat", sum := "085576c92394db84d58d83bc1a8e5cceb23fffee57ad1b4bc886ec7c9b2aa796", func := "loop.example/capturemonitor/laws.FnMonitorRun", spec := "fnMonitorRun", apart := false }
def FnMonitorRunSaid : Prop := fnMonitorRunRow.holds Tryz.pinned (OpenSpec.ofChange fnMonitorRunSpec)

/-- ITS FALSE NEIGHBOUR: 'it returns false'. Refute it at one input. -/
def fnMonitorRunWrong : ChangeSpec := { name := "fnMonitorRun", fn := fun _ => fun
  | [d] => { results := [.lit (.bool false)], args := [d] }
  | _ => none }
def FnMonitorRunWrongFalsely : Prop := fnMonitorRunRow.holds Tryz.pinned (OpenSpec.ofChange fnMonitorRunWrong)

/-- 'laws.FnMonitorTimes': WHATEVER THE INPUT: true; the input reads as it did. -/
def fnMonitorTimesSpec : ChangeSpec := { name := "fnMonitorTimes", fn := fun _ => fun
  | [d] => { results := [.lit (.bool true)], args := [d] }
  | _ => none }
def fnMonitorTimesRow : OpenClaim := { program := "ytpcfbgeabehmbaagreat", sum := "085576c92394db84d58d83bc1a8e5cceb23fffee57ad1b4bc886ec7c9b2aa796", func := "loop.example/capturemonitor/laws.FnMonitorTimes", spec := "fnMonitorTimes", apart := false }
def FnMonitorTimesSaid : Prop := fnMonitorTimesRow.holds Tryz.pinned (OpenSpec.ofChange fnMonitorTimesSpec)

/-- ITS FALSE NEIGHBOUR: 'it returns false'. Refute it at one input. -/
def fnMonitorTimesWrong : ChangeSpec := { name := "fnMonitorTimes", fn := fun _ => fun
  | [d] => { results := [.lit (.bool false)], args := [d] }
  | _ => none }
def FnMonitorTimesWrongFalsely : Prop := fnMonitorTimesRow.holds Tryz.pinned (OpenSpec.ofChange fnMonitorTimesWrong)

/-- 'laws.FnMonitorBad': WHATEVER THE INPUT: true; the input reads as it did. -/
def fnMonitorBadSpec : ChangeSpec := { name := "fnMonitorBad", fn := fun _ => fun
  | [d] => { results := [.lit (.bool true)], args := [d] }
  | _ => none }
def fnMonitorBadRow : OpenClaim := { program := "ytpcfbgeabehmbaagreat", sum := "085576c92394db84d58d83bc1a8e5cceb23fffee57ad1b4bc886ec7c9b2aa796", func := "loop.example/capturemonitor/laws.FnMonitorBad", spec := "fnMonitorBad", apart := false }
def FnMonitorBadSaid : Prop := fnMonitorBadRow.holds Tryz.pinned (OpenSpec.ofChange fnMonitorBadSpec)

/-- ITS FALSE NEIGHBOUR: 'it returns false'. Refute it at one input. -/
def fnMonitorBadWrong : ChangeSpec := { name := "fnMonitorBad", fn := fun _ => fun
  | [d] => { results := [.lit (.bool false)], args := [d] }
  | _ => none }
def FnMonitorBadWrongFalsely : Prop := fnMonitorBadRow.holds Tryz.pinned (OpenSpec.ofChange fnMonitorBadWrong)

/-- 'laws.FnMonitorBegin': WHATEVER THE INPUT: true; the input reads as it did. -/
def fnMonitorBeginSpec : ChangeSpec := { name := "fnMonitorBegin", fn := fun _ => fun
  | [d] => { results := [.lit (.bool true)], args := [d] }
  | _ => none }
def fnMonitorBeginRow : OpenClaim := { program := "ytpcfbgeabehmbaagreat", sum := "085576c92394db84d58d83bc1a8e5cceb23fffee57ad1b4bc886ec7c9b2aa796", func := "loop.example/capturemonitor/laws.FnMonitorBegin", spec := "fnMonitorBegin", apart := false }
def FnMonitorBeginSaid : Prop := fnMonitorBeginRow.holds Tryz.pinned (OpenSpec.ofChange fnMonitorBeginSpec)

/-- ITS FALSE NEIGHBOUR: 'it returns false'. Refute it at one input. -/
def fnMonitorBeginWrong : ChangeSpec := { name := "fnMonitorBegin", fn := fun _ => fun
  | [d] => { results := [.lit (.bool false)], args := [d] }
  | _ => none }
def FnMonitorBeginWrongFalsely : Prop := fnMonitorBeginRow.holds Tryz.pinned (OpenSpec.ofChange fnMonitorBeginWrong)

/-- 'laws.FnMonitorBroken': WHATEVER THE INPUT: true; the input reads as it did. -/
def fnMonitorBrokenSpec : ChangeSpec := { name := "fnMonitorBroken", fn := fun _ => fun
  | [d] => { results := [.lit (.bool true)], args := [d] }
  | _ => none }
def fnMonitorBrokenRow : OpenClaim := { program := "ytpcfbgeabehmbaagreat", sum := "085576c92394db84d58d83bc1a8e5cceb23fffee57ad1b4bc886ec7c9b2aa796", func := "loop.example/capturemonitor/laws.FnMonitorBroken", spec := "fnMonitorBroken", apart := false }
def FnMonitorBrokenSaid : Prop := fnMonitorBrokenRow.holds Tryz.pinned (OpenSpec.ofChange fnMonitorBrokenSpec)

/-- ITS FALSE NEIGHBOUR: 'it returns false'. Refute it at one input. -/
def fnMonitorBrokenWrong : ChangeSpec := { name := "fnMonitorBroken", fn := fun _ => fun
  | [d] => { results := [.lit (.bool false)], args := [d] }
  | _ => none }
def FnMonitorBrokenWrongFalsely : Prop := fnMonitorBrokenRow.holds Tryz.pinned (OpenSpec.ofChange fnMonitorBrokenWrong)

/-- 'laws.FnMonitorFound': WHATEVER THE INPUT: true; the input reads as it did. -/
def fnMonitorFoundSpec : ChangeSpec := { name := "fnMonitorFound", fn := fun _ => fun
  | [d] => { results := [.lit (.bool true)], args := [d] }
  | _ => none }
def fnMonitorFoundRow : OpenClaim := { program := "ytpcfbgeabehmbaagreat", sum := "085576c92394db84d58d83bc1a8e5cceb23fffee57ad1b4bc886ec7c9b2aa796", func := "loop.example/capturemonitor/laws.FnMonitorFound", spec := "fnMonitorFound", apart := false }
def FnMonitorFoundSaid : Prop := fnMonitorFoundRow.holds Tryz.pinned (OpenSpec.ofChange fnMonitorFoundSpec)

/-- ITS FALSE NEIGHBOUR: 'it returns false'. Refute it at one input. -/
def fnMonitorFoundWrong : ChangeSpec := { name := "fnMonitorFound", fn := fun _ => fun
  | [d] => { results := [.lit (.bool false)], args := [d] }
  | _ => none }
def FnMonitorFoundWrongFalsely : Prop := fnMonitorFoundRow.holds Tryz.pinned (OpenSpec.ofChange fnMonitorFoundWrong)

/-- 'laws.FnMonitorStep': WHATEVER THE INPUT: true; the input reads as it did. -/
def fnMonitorStepSpec : ChangeSpec := { name := "fnMonitorStep", fn := fun _ => fun
  | [d] => { results := [.lit (.bool true)], args := [d] }
  | _ => none }
def fnMonitorStepRow : OpenClaim := { program := "ytpcfbgeabehmbaagreat", sum := "085576c92394db84d58d83bc1a8e5cceb23fffee57ad1b4bc886ec7c9b2aa796", func := "loop.example/capturemonitor/laws.FnMonitorStep", spec := "fnMonitorStep", apart := false }
def FnMonitorStepSaid : Prop := fnMonitorStepRow.holds Tryz.pinned (OpenSpec.ofChange fnMonitorStepSpec)

/-- ITS FALSE NEIGHBOUR: 'it returns false'. Refute it at one input. -/
def fnMonitorStepWrong : ChangeSpec := { name := "fnMonitorStep", fn := fun _ => fun
  | [d] => { results := [.lit (.bool false)], args := [d] }
  | _ => none }
def FnMonitorStepWrongFalsely : Prop := fnMonitorStepRow.holds Tryz.pinned (OpenSpec.ofChange fnMonitorStepWrong)

/-- 'laws.FnMonitorKnown': WHATEVER THE INPUT: true; the input reads as it did. -/
def fnMonitorKnownSpec : ChangeSpec := { name := "fnMonitorKnown", fn := fun _ => fun
  | [d] => { results := [.lit (.bool true)], args := [d] }
  | _ => none }
def fnMonitorKnownRow : OpenClaim := { program := "ytpcfbgeabehmbaagreat", sum := "085576c92394db84d58d83bc1a8e5cceb23fffee57ad1b4bc886ec7c9b2aa796", func := "loop.example/capturemonitor/laws.FnMonitorKnown", spec := "fnMonitorKnown", apart := false }
def FnMonitorKnownSaid : Prop := fnMonitorKnownRow.holds Tryz.pinned (OpenSpec.ofChange fnMonitorKnownSpec)

/-- ITS FALSE NEIGHBOUR: 'it returns false'. Refute it at one input. -/
def fnMonitorKnownWrong : ChangeSpec := { name := "fnMonitorKnown", fn := fun _ => fun
  | [d] => { results := [.lit (.bool false)], args := [d] }
  | _ => none }
def FnMonitorKnownWrongFalsely : Prop := fnMonitorKnownRow.holds Tryz.pinned (OpenSpec.ofChange fnMonitorKnownWrong)

/-- 'laws.FnMonitorOthers': WHATEVER THE INPUT: true; the input reads as it did. -/
def fnMonitorOthersSpec : ChangeSpec := { name := "fnMonitorOthers", fn := fun _ => fun
  | [d] => { results := [.lit (.bool true)], args := [d] }
  | _ => none }
def fnMonitorOthersRow : OpenClaim := { program := "ytpcfbgeabehmbaagreat", sum := "085576c92394db84d58d83bc1a8e5cceb23fffee57ad1b4bc886ec7c9b2aa796", func := "loop.example/capturemonitor/laws.FnMonitorOthers", spec := "fnMonitorOthers", apart := false }
def FnMonitorOthersSaid : Prop := fnMonitorOthersRow.holds Tryz.pinned (OpenSpec.ofChange fnMonitorOthersSpec)

/-- ITS FALSE NEIGHBOUR: 'it returns false'. Refute it at one input. -/
def fnMonitorOthersWrong : ChangeSpec := { name := "fnMonitorOthers", fn := fun _ => fun
  | [d] => { results := [.lit (.bool false)], args := [d] }
  | _ => none }
def FnMonitorOthersWrongFalsely : Prop := fnMonitorOthersRow.holds Tryz.pinned (OpenSpec.ofChange fnMonitorOthersWrong)

/-- 'laws.FnMonitorStray': WHATEVER THE INPUT: true; the input reads as it did. -/
def fnMonitorStraySpec : ChangeSpec := { name := "fnMonitorStray", fn := fun _ => fun
  | [d] => { results := [.lit (.bool true)], args := [d] }
  | _ => none }
def fnMonitorStrayRow : OpenClaim := { program := "ytpcfbgeabehmbaagreat", sum := "085576c92394db84d58d83bc1a8e5cceb23fffee57ad1b4bc886ec7c9b2aa796", func := "loop.example/capturemonitor/laws.FnMonitorStray", spec := "fnMonitorStray", apart := false }
def FnMonitorStraySaid : Prop := fnMonitorStrayRow.holds Tryz.pinned (OpenSpec.ofChange fnMonitorStraySpec)

/-- ITS FALSE NEIGHBOUR: 'it returns false'. Refute it at one input. -/
def fnMonitorStrayWrong : ChangeSpec := { name := "fnMonitorStray", fn := fun _ => fun
  | [d] => { results := [.lit (.bool false)], args := [d] }
  | _ => none }
def FnMonitorStrayWrongFalsely : Prop := fnMonitorStrayRow.holds Tryz.pinned (OpenSpec.ofChange fnMonitorStrayWrong)

/- THE SECOND FORM. 'bulk': how many values and letters a reading holds, each counted each time it is reached (what is shared counts as often as it is met; a slice's spare places count too). A statement '..UptoSaid' is the law's where the arguments, and the package variables that the reading takes, are together of bulk at most 1048576: NARROWER than '..Said'. Prove '..Said' where nothing that the law and all that it calls make is longer than what came in: it says more and counts as full. Else prove '..UptoSaid'. A law counts once. -/
mutual
def uptoBulk {H : Type} : DataW H → Nat
  | .lit (.string bytes) => bytes.length + 1
  | .lit _ => 1
  | .nil => 1
  | .ptr d => uptoBulk d + 1
  | .slice elems spare => uptoBulkAll elems + uptoBulkAll spare + 1
  | .agg parts => uptoBulkAll parts + 1
  | .iface _ d => uptoBulk d + 1
  | .map entries => uptoBulkEntries entries + 1
  | .held _ => 1
def uptoBulkAll {H : Type} : List (DataW H) → Nat
  | [] => 0
  | d :: r => uptoBulk d + uptoBulkAll r
def uptoBulkEntries {H : Type} : List (Lit × DataW H) → Nat
  | [] => 0
  | x :: r => uptoBulkEntry x + uptoBulkEntries r
def uptoBulkEntry {H : Type} : Lit × DataW H → Nat
  | (.string bytes, d) => bytes.length + uptoBulk d + 1
  | (_, d) => uptoBulk d + 1
 end
def uptoSmall : (H : Type) → List (DataW H) → Bool := fun _ ds => decide (uptoBulkAll ds ≤ 1048576)
def OpenSpec.upto (s : _root_.Go.ChangeSpec) : _root_.Go.OpenSpec := { _root_.Go.OpenSpec.ofChange s with cond := some uptoSmall }

/-- 'laws.FnMonitorNoise', WHERE WHAT IT READS IS OF BULK AT MOST 1048576: true; the input reads as it did. -/
def fnMonitorNoiseUptoRow : OpenClaim := { program := "ytpcfbgeabehmbaagreat", sum := "085576c92394db84d58d83bc1a8e5cceb23fffee57ad1b4bc886ec7c9b2aa796", func := "loop.example/capturemonitor/laws.FnMonitorNoise", spec := "fnMonitorNoise", apart := false, narrowed := true }
def FnMonitorNoiseUptoSaid : Prop := fnMonitorNoiseUptoRow.holds Tryz.pinned (OpenSpec.upto fnMonitorNoiseSpec)

/-- 'laws.FnMonitorPart', WHERE WHAT IT READS IS OF BULK AT MOST 1048576: true; the input reads as it did. -/
def fnMonitorPartUptoRow : OpenClaim := { program := "ytpcfbgeabehmbaagreat", sum := "085576c92394db84d58d83bc1a8e5cceb23fffee57ad1b4bc886ec7c9b2aa796", func := "loop.example/capturemonitor/laws.FnMonitorPart", spec := "fnMonitorPart", apart := false, narrowed := true }
def FnMonitorPartUptoSaid : Prop := fnMonitorPartUptoRow.holds Tryz.pinned (OpenSpec.upto fnMonitorPartSpec)

/-- 'laws.FnMonitorRun', WHERE WHAT IT READS IS OF BULK AT MOST 1048576: true; the input reads as it did. -/
def fnMonitorRunUptoRow : OpenClaim := { program := "ytpcfbgeabehmbaagreat", sum := "085576c92394db84d58d83bc1a8e5cceb23fffee57ad1b4bc886ec7c9b2aa796", func := "loop.example/capturemonitor/laws.FnMonitorRun", spec := "fnMonitorRun", apart := false, narrowed := true }
def FnMonitorRunUptoSaid : Prop := fnMonitorRunUptoRow.holds Tryz.pinned (OpenSpec.upto fnMonitorRunSpec)

/-- 'laws.FnMonitorTimes', WHERE WHAT IT READS IS OF BULK AT MOST 1048576: true; the input reads as it did. -/
def fnMonitorTimesUptoRow : OpenClaim := { program := "ytpcfbgeabehmbaagreat", sum := "085576c92394db84d58d83bc1a8e5cceb23fffee57ad1b4bc886ec7c9b2aa796", func := "loop.example/capturemonitor/laws.FnMonitorTimes", spec := "fnMonitorTimes", apart := false, narrowed := true }
def FnMonitorTimesUptoSaid : Prop := fnMonitorTimesUptoRow.holds Tryz.pinned (OpenSpec.upto fnMonitorTimesSpec)

/-- 'laws.FnMonitorBad', WHERE WHAT IT READS IS OF BULK AT MOST 1048576: true; the input reads as it did. -/
def fnMonitorBadUptoRow : OpenClaim := { program := "ytpcfbgeabehmbaagreat", sum := "085576c92394db84d58d83bc1a8e5cceb23fffee57ad1b4bc886ec7c9b2aa796", func := "loop.example/capturemonitor/laws.FnMonitorBad", spec := "fnMonitorBad", apart := false, narrowed := true }
def FnMonitorBadUptoSaid : Prop := fnMonitorBadUptoRow.holds Tryz.pinned (OpenSpec.upto fnMonitorBadSpec)

/-- 'laws.FnMonitorBegin', WHERE WHAT IT READS IS OF BULK AT MOST 1048576: true; the input reads as it did. -/
def fnMonitorBeginUptoRow : OpenClaim := { program := "ytpcfbgeabehmbaagreat", sum := "085576c92394db84d58d83bc1a8e5cceb23fffee57ad1b4bc886ec7c9b2aa796", func := "loop.example/capturemonitor/laws.FnMonitorBegin", spec := "fnMonitorBegin", apart := false, narrowed := true }
def FnMonitorBeginUptoSaid : Prop := fnMonitorBeginUptoRow.holds Tryz.pinned (OpenSpec.upto fnMonitorBeginSpec)

/-- 'laws.FnMonitorBroken', WHERE WHAT IT READS IS OF BULK AT MOST 1048576: true; the input reads as it did. -/
def fnMonitorBrokenUptoRow : OpenClaim := { program := "ytpcfbgeabehmbaagreat", sum := "085576c92394db84d58d83bc1a8e5cceb23fffee57ad1b4bc886ec7c9b2aa796", func := "loop.example/capturemonitor/laws.FnMonitorBroken", spec := "fnMonitorBroken", apart := false, narrowed := true }
def FnMonitorBrokenUptoSaid : Prop := fnMonitorBrokenUptoRow.holds Tryz.pinned (OpenSpec.upto fnMonitorBrokenSpec)

/-- 'laws.FnMonitorFound', WHERE WHAT IT READS IS OF BULK AT MOST 1048576: true; the input reads as it did. -/
def fnMonitorFoundUptoRow : OpenClaim := { program := "ytpcfbgeabehmbaagreat", sum := "085576c92394db84d58d83bc1a8e5cceb23fffee57ad1b4bc886ec7c9b2aa796", func := "loop.example/capturemonitor/laws.FnMonitorFound", spec := "fnMonitorFound", apart := false, narrowed := true }
def FnMonitorFoundUptoSaid : Prop := fnMonitorFoundUptoRow.holds Tryz.pinned (OpenSpec.upto fnMonitorFoundSpec)

/-- 'laws.FnMonitorStep', WHERE WHAT IT READS IS OF BULK AT MOST 1048576: true; the input reads as it did. -/
def fnMonitorStepUptoRow : OpenClaim := { program := "ytpcfbgeabehmbaagreat", sum := "085576c92394db84d58d83bc1a8e5cceb23fffee57ad1b4bc886ec7c9b2aa796", func := "loop.example/capturemonitor/laws.FnMonitorStep", spec := "fnMonitorStep", apart := false, narrowed := true }
def FnMonitorStepUptoSaid : Prop := fnMonitorStepUptoRow.holds Tryz.pinned (OpenSpec.upto fnMonitorStepSpec)

/-- 'laws.FnMonitorKnown', WHERE WHAT IT READS IS OF BULK AT MOST 1048576: true; the input reads as it did. -/
def fnMonitorKnownUptoRow : OpenClaim := { program := "ytpcfbgeabehmbaagreat", sum := "085576c92394db84d58d83bc1a8e5cceb23fffee57ad1b4bc886ec7c9b2aa796", func := "loop.example/capturemonitor/laws.FnMonitorKnown", spec := "fnMonitorKnown", apart := false, narrowed := true }
def FnMonitorKnownUptoSaid : Prop := fnMonitorKnownUptoRow.holds Tryz.pinned (OpenSpec.upto fnMonitorKnownSpec)

/-- 'laws.FnMonitorOthers', WHERE WHAT IT READS IS OF BULK AT MOST 1048576: true; the input reads as it did. -/
def fnMonitorOthersUptoRow : OpenClaim := { program := "ytpcfbgeabehmbaagreat", sum := "085576c92394db84d58d83bc1a8e5cceb23fffee57ad1b4bc886ec7c9b2aa796", func := "loop.example/capturemonitor/laws.FnMonitorOthers", spec := "fnMonitorOthers", apart := false, narrowed := true }
def FnMonitorOthersUptoSaid : Prop := fnMonitorOthersUptoRow.holds Tryz.pinned (OpenSpec.upto fnMonitorOthersSpec)

/-- 'laws.FnMonitorStray', WHERE WHAT IT READS IS OF BULK AT MOST 1048576: true; the input reads as it did. -/
def fnMonitorStrayUptoRow : OpenClaim := { program := "ytpcfbgeabehmbaagreat", sum := "085576c92394db84d58d83bc1a8e5cceb23fffee57ad1b4bc886ec7c9b2aa796", func := "loop.example/capturemonitor/laws.FnMonitorStray", spec := "fnMonitorStray", apart := false, narrowed := true }
def FnMonitorStrayUptoSaid : Prop := fnMonitorStrayUptoRow.holds Tryz.pinned (OpenSpec.upto fnMonitorStraySpec)

end Rows
end Go.Proofs.YtpcfbgeabehmbaaGreat
