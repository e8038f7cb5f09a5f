/-
  No cell of these rows narrows 'for every input' (looked for: loops, veiled, ifaces, maps, wideKeys, modest, calm, conditions, laid).
  DERIVED. THE GIVEN ROWS OF THIS SEAT. 16 by the template 'for every input the law returns true; each argument reads behind the call as it read before'; 0 by the template 'total and deterministic' (their statements: YtldoekmblpghmaaGreatTotals.lean).
  GIVEN WITH THE SEED: the statements are not yours to turn. If you find one false, say at which input.
  Laid BY PROGRAM, IN A SANDBOX (cutbox-rows.mjs): the forced cells as the released guide's own fill.sh prints them over the translation 0bbb0b181889a466… (all of the seat's roots in one cut). By AI agents, Wed Nov 11 2026. No macro, syntax, notation, axiom, sorry.
-/
import Derived.Test.YtldoekmblpghmaaGreatChecked
import GoSem.Claim
import GoSem.ClaimJoined
import GoSem.ClaimMapViews
import Derived.JoinedTies
import Derived.KernelRfl
namespace Go.Proofs.YtldoekmblpghmaaGreat
/- THE CELL 'sum', in the pinned program and in every row, IS THE sha256 OF THE DUMP (.gsa) THAT YtldoekmblpghmaaGreatProg.lean LOADS. Nothing in Lean hashes anything: it is a label: what it is worth is what the hold of that sum in a sandbox is worth. -/
noncomputable def Tryz.pinned : Pinned := { name := "ytldoekmblpghmaagreat", sum := "0bbb0b181889a4668f4b38edca3421cf9ee567a475eae4d65c9b26daf3a796e8", checked := Tryz.checked }
namespace Rows
def none {H : Type} : Left H := { results := [], args := [] }

/-- 'laws.FnStep': WHATEVER THE INPUT: true; the input reads as it did. -/
def fnStepSpec : ChangeSpec := { name := "fnStep", fn := fun _ => fun
  | [d] => { results := [.lit (.bool true)], args := [d] }
  | _ => none }
def fnStepRow : OpenClaim := { program := "ytldoekmblpghmaagreat", sum := "0bbb0b181889a4668f4b38edca3421cf9ee567a475eae4d65c9b26daf3a796e8", func := "loop.example/capturemonitor/laws.FnStep", spec := "fnStep", apart := false }
def FnStepSaid : Prop := fnStepRow.holds Tryz.pinned (OpenSpec.ofChange fnStepSpec)

/-- ITS FALSE NEIGHBOUR: 'it returns false'. Refute it at one input. -/
def fnStepWrong : ChangeSpec := { name := "fnStep", fn := fun _ => fun
  | [d] => { results := [.lit (.bool false)], args := [d] }
  | _ => none }
def FnStepWrongFalsely : Prop := fnStepRow.holds Tryz.pinned (OpenSpec.ofChange fnStepWrong)

/-- 'laws.FnStepBroken': WHATEVER THE INPUT: true; the input reads as it did. -/
def fnStepBrokenSpec : ChangeSpec := { name := "fnStepBroken", fn := fun _ => fun
  | [d] => { results := [.lit (.bool true)], args := [d] }
  | _ => none }
def fnStepBrokenRow : OpenClaim := { program := "ytldoekmblpghmaagreat", sum := "0bbb0b181889a4668f4b38edca3421cf9ee567a475eae4d65c9b26daf3a796e8", func := "loop.example/capturemonitor/laws.FnStepBroken", spec := "fnStepBroken", apart := false }
def FnStepBrokenSaid : Prop := fnStepBrokenRow.holds Tryz.pinned (OpenSpec.ofChange fnStepBrokenSpec)

/-- ITS FALSE NEIGHBOUR: 'it returns false'. Refute it at one input. -/
def fnStepBrokenWrong : ChangeSpec := { name := "fnStepBroken", fn := fun _ => fun
  | [d] => { results := [.lit (.bool false)], args := [d] }
  | _ => none }
def FnStepBrokenWrongFalsely : Prop := fnStepBrokenRow.holds Tryz.pinned (OpenSpec.ofChange fnStepBrokenWrong)

/-- 'laws.FnStepPorts': WHATEVER THE INPUT: true; the input reads as it did. -/
def fnStepPortsSpec : ChangeSpec := { name := "fnStepPorts", fn := fun _ => fun
  | [d] => { results := [.lit (.bool true)], args := [d] }
  | _ => none }
def fnStepPortsRow : OpenClaim := { program := "ytldoekmblpghmaagreat", sum := "0bbb0b181889a4668f4b38edca3421cf9ee567a475eae4d65c9b26daf3a796e8", func := "loop.example/capturemonitor/laws.FnStepPorts", spec := "fnStepPorts", apart := false }
def FnStepPortsSaid : Prop := fnStepPortsRow.holds Tryz.pinned (OpenSpec.ofChange fnStepPortsSpec)

/-- ITS FALSE NEIGHBOUR: 'it returns false'. Refute it at one input. -/
def fnStepPortsWrong : ChangeSpec := { name := "fnStepPorts", fn := fun _ => fun
  | [d] => { results := [.lit (.bool false)], args := [d] }
  | _ => none }
def FnStepPortsWrongFalsely : Prop := fnStepPortsRow.holds Tryz.pinned (OpenSpec.ofChange fnStepPortsWrong)

/-- 'laws.FnStepState': WHATEVER THE INPUT: true; the input reads as it did. -/
def fnStepStateSpec : ChangeSpec := { name := "fnStepState", fn := fun _ => fun
  | [d] => { results := [.lit (.bool true)], args := [d] }
  | _ => none }
def fnStepStateRow : OpenClaim := { program := "ytldoekmblpghmaagreat", sum := "0bbb0b181889a4668f4b38edca3421cf9ee567a475eae4d65c9b26daf3a796e8", func := "loop.example/capturemonitor/laws.FnStepState", spec := "fnStepState", apart := false }
def FnStepStateSaid : Prop := fnStepStateRow.holds Tryz.pinned (OpenSpec.ofChange fnStepStateSpec)

/-- ITS FALSE NEIGHBOUR: 'it returns false'. Refute it at one input. -/
def fnStepStateWrong : ChangeSpec := { name := "fnStepState", fn := fun _ => fun
  | [d] => { results := [.lit (.bool false)], args := [d] }
  | _ => none }
def FnStepStateWrongFalsely : Prop := fnStepStateRow.holds Tryz.pinned (OpenSpec.ofChange fnStepStateWrong)

/-- 'laws.FnStepTwice': WHATEVER THE INPUT: true; the input reads as it did. -/
def fnStepTwiceSpec : ChangeSpec := { name := "fnStepTwice", fn := fun _ => fun
  | [d] => { results := [.lit (.bool true)], args := [d] }
  | _ => none }
def fnStepTwiceRow : OpenClaim := { program := "ytldoekmblpghmaagreat", sum := "0bbb0b181889a4668f4b38edca3421cf9ee567a475eae4d65c9b26daf3a796e8", func := "loop.example/capturemonitor/laws.FnStepTwice", spec := "fnStepTwice", apart := false }
def FnStepTwiceSaid : Prop := fnStepTwiceRow.holds Tryz.pinned (OpenSpec.ofChange fnStepTwiceSpec)

/-- ITS FALSE NEIGHBOUR: 'it returns false'. Refute it at one input. -/
def fnStepTwiceWrong : ChangeSpec := { name := "fnStepTwice", fn := fun _ => fun
  | [d] => { results := [.lit (.bool false)], args := [d] }
  | _ => none }
def FnStepTwiceWrongFalsely : Prop := fnStepTwiceRow.holds Tryz.pinned (OpenSpec.ofChange fnStepTwiceWrong)

/-- 'laws.FnStepTag': WHATEVER THE INPUT: true; the input reads as it did. -/
def fnStepTagSpec : ChangeSpec := { name := "fnStepTag", fn := fun _ => fun
  | [d1, d2] => { results := [.lit (.bool true)], args := [d1, d2] }
  | _ => none }
def fnStepTagRow : OpenClaim := { program := "ytldoekmblpghmaagreat", sum := "0bbb0b181889a4668f4b38edca3421cf9ee567a475eae4d65c9b26daf3a796e8", func := "loop.example/capturemonitor/laws.FnStepTag", spec := "fnStepTag", apart := false }
def FnStepTagSaid : Prop := fnStepTagRow.holds Tryz.pinned (OpenSpec.ofChange fnStepTagSpec)

/-- ITS FALSE NEIGHBOUR: 'it returns false'. Refute it at one input. -/
def fnStepTagWrong : ChangeSpec := { name := "fnStepTag", fn := fun _ => fun
  | [d1, d2] => { results := [.lit (.bool false)], args := [d1, d2] }
  | _ => none }
def FnStepTagWrongFalsely : Prop := fnStepTagRow.holds Tryz.pinned (OpenSpec.ofChange fnStepTagWrong)

/-- 'laws.FnStepAcked': WHATEVER THE INPUT: true; the input reads as it did. -/
def fnStepAckedSpec : ChangeSpec := { name := "fnStepAcked", fn := fun _ => fun
  | [d] => { results := [.lit (.bool true)], args := [d] }
  | _ => none }
def fnStepAckedRow : OpenClaim := { program := "ytldoekmblpghmaagreat", sum := "0bbb0b181889a4668f4b38edca3421cf9ee567a475eae4d65c9b26daf3a796e8", func := "loop.example/capturemonitor/laws.FnStepAcked", spec := "fnStepAcked", apart := false }
def FnStepAckedSaid : Prop := fnStepAckedRow.holds Tryz.pinned (OpenSpec.ofChange fnStepAckedSpec)

/-- ITS FALSE NEIGHBOUR: 'it returns false'. Refute it at one input. -/
def fnStepAckedWrong : ChangeSpec := { name := "fnStepAcked", fn := fun _ => fun
  | [d] => { results := [.lit (.bool false)], args := [d] }
  | _ => none }
def FnStepAckedWrongFalsely : Prop := fnStepAckedRow.holds Tryz.pinned (OpenSpec.ofChange fnStepAckedWrong)

/-- 'laws.FnStepSent': WHATEVER THE INPUT: true; the input reads as it did. -/
def fnStepSentSpec : ChangeSpec := { name := "fnStepSent", fn := fun _ => fun
  | [d] => { results := [.lit (.bool true)], args := [d] }
  | _ => none }
def fnStepSentRow : OpenClaim := { program := "ytldoekmblpghmaagreat", sum := "0bbb0b181889a4668f4b38edca3421cf9ee567a475eae4d65c9b26daf3a796e8", func := "loop.example/capturemonitor/laws.FnStepSent", spec := "fnStepSent", apart := false }
def FnStepSentSaid : Prop := fnStepSentRow.holds Tryz.pinned (OpenSpec.ofChange fnStepSentSpec)

/-- ITS FALSE NEIGHBOUR: 'it returns false'. Refute it at one input. -/
def fnStepSentWrong : ChangeSpec := { name := "fnStepSent", fn := fun _ => fun
  | [d] => { results := [.lit (.bool false)], args := [d] }
  | _ => none }
def FnStepSentWrongFalsely : Prop := fnStepSentRow.holds Tryz.pinned (OpenSpec.ofChange fnStepSentWrong)

/-- 'laws.FnStepAlone': WHATEVER THE INPUT: true; the input reads as it did. -/
def fnStepAloneSpec : ChangeSpec := { name := "fnStepAlone", fn := fun _ => fun
  | [d] => { results := [.lit (.bool true)], args := [d] }
  | _ => none }
def fnStepAloneRow : OpenClaim := { program := "ytldoekmblpghmaagreat", sum := "0bbb0b181889a4668f4b38edca3421cf9ee567a475eae4d65c9b26daf3a796e8", func := "loop.example/capturemonitor/laws.FnStepAlone", spec := "fnStepAlone", apart := false }
def FnStepAloneSaid : Prop := fnStepAloneRow.holds Tryz.pinned (OpenSpec.ofChange fnStepAloneSpec)

/-- ITS FALSE NEIGHBOUR: 'it returns false'. Refute it at one input. -/
def fnStepAloneWrong : ChangeSpec := { name := "fnStepAlone", fn := fun _ => fun
  | [d] => { results := [.lit (.bool false)], args := [d] }
  | _ => none }
def FnStepAloneWrongFalsely : Prop := fnStepAloneRow.holds Tryz.pinned (OpenSpec.ofChange fnStepAloneWrong)

/-- 'laws.FnStepOver': WHATEVER THE INPUT: true; the input reads as it did. -/
def fnStepOverSpec : ChangeSpec := { name := "fnStepOver", fn := fun _ => fun
  | [d] => { results := [.lit (.bool true)], args := [d] }
  | _ => none }
def fnStepOverRow : OpenClaim := { program := "ytldoekmblpghmaagreat", sum := "0bbb0b181889a4668f4b38edca3421cf9ee567a475eae4d65c9b26daf3a796e8", func := "loop.example/capturemonitor/laws.FnStepOver", spec := "fnStepOver", apart := false }
def FnStepOverSaid : Prop := fnStepOverRow.holds Tryz.pinned (OpenSpec.ofChange fnStepOverSpec)

/-- ITS FALSE NEIGHBOUR: 'it returns false'. Refute it at one input. -/
def fnStepOverWrong : ChangeSpec := { name := "fnStepOver", fn := fun _ => fun
  | [d] => { results := [.lit (.bool false)], args := [d] }
  | _ => none }
def FnStepOverWrongFalsely : Prop := fnStepOverRow.holds Tryz.pinned (OpenSpec.ofChange fnStepOverWrong)

/-- 'laws.FnStepShut': WHATEVER THE INPUT: true; the input reads as it did. -/
def fnStepShutSpec : ChangeSpec := { name := "fnStepShut", fn := fun _ => fun
  | [d] => { results := [.lit (.bool true)], args := [d] }
  | _ => none }
def fnStepShutRow : OpenClaim := { program := "ytldoekmblpghmaagreat", sum := "0bbb0b181889a4668f4b38edca3421cf9ee567a475eae4d65c9b26daf3a796e8", func := "loop.example/capturemonitor/laws.FnStepShut", spec := "fnStepShut", apart := false }
def FnStepShutSaid : Prop := fnStepShutRow.holds Tryz.pinned (OpenSpec.ofChange fnStepShutSpec)

/-- ITS FALSE NEIGHBOUR: 'it returns false'. Refute it at one input. -/
def fnStepShutWrong : ChangeSpec := { name := "fnStepShut", fn := fun _ => fun
  | [d] => { results := [.lit (.bool false)], args := [d] }
  | _ => none }
def FnStepShutWrongFalsely : Prop := fnStepShutRow.holds Tryz.pinned (OpenSpec.ofChange fnStepShutWrong)

/-- 'laws.FnStepSaid': WHATEVER THE INPUT: true; the input reads as it did. -/
def fnStepSaidSpec : ChangeSpec := { name := "fnStepSaid", fn := fun _ => fun
  | [d] => { results := [.lit (.bool true)], args := [d] }
  | _ => none }
def fnStepSaidRow : OpenClaim := { program := "ytldoekmblpghmaagreat", sum := "0bbb0b181889a4668f4b38edca3421cf9ee567a475eae4d65c9b26daf3a796e8", func := "loop.example/capturemonitor/laws.FnStepSaid", spec := "fnStepSaid", apart := false }
def FnStepSaidSaid : Prop := fnStepSaidRow.holds Tryz.pinned (OpenSpec.ofChange fnStepSaidSpec)

/-- ITS FALSE NEIGHBOUR: 'it returns false'. Refute it at one input. -/
def fnStepSaidWrong : ChangeSpec := { name := "fnStepSaid", fn := fun _ => fun
  | [d] => { results := [.lit (.bool false)], args := [d] }
  | _ => none }
def FnStepSaidWrongFalsely : Prop := fnStepSaidRow.holds Tryz.pinned (OpenSpec.ofChange fnStepSaidWrong)

/-- 'laws.FnStepAgain': WHATEVER THE INPUT: true; the input reads as it did. -/
def fnStepAgainSpec : ChangeSpec := { name := "fnStepAgain", fn := fun _ => fun
  | [d1, d2] => { results := [.lit (.bool true)], args := [d1, d2] }
  | _ => none }
def fnStepAgainRow : OpenClaim := { program := "ytldoekmblpghmaagreat", sum := "0bbb0b181889a4668f4b38edca3421cf9ee567a475eae4d65c9b26daf3a796e8", func := "loop.example/capturemonitor/laws.FnStepAgain", spec := "fnStepAgain", apart := false }
def FnStepAgainSaid : Prop := fnStepAgainRow.holds Tryz.pinned (OpenSpec.ofChange fnStepAgainSpec)

/-- ITS FALSE NEIGHBOUR: 'it returns false'. Refute it at one input. -/
def fnStepAgainWrong : ChangeSpec := { name := "fnStepAgain", fn := fun _ => fun
  | [d1, d2] => { results := [.lit (.bool false)], args := [d1, d2] }
  | _ => none }
def FnStepAgainWrongFalsely : Prop := fnStepAgainRow.holds Tryz.pinned (OpenSpec.ofChange fnStepAgainWrong)

/-- 'laws.FnStepData': WHATEVER THE INPUT: true; the input reads as it did. -/
def fnStepDataSpec : ChangeSpec := { name := "fnStepData", fn := fun _ => fun
  | [d] => { results := [.lit (.bool true)], args := [d] }
  | _ => none }
def fnStepDataRow : OpenClaim := { program := "ytldoekmblpghmaagreat", sum := "0bbb0b181889a4668f4b38edca3421cf9ee567a475eae4d65c9b26daf3a796e8", func := "loop.example/capturemonitor/laws.FnStepData", spec := "fnStepData", apart := false }
def FnStepDataSaid : Prop := fnStepDataRow.holds Tryz.pinned (OpenSpec.ofChange fnStepDataSpec)

/-- ITS FALSE NEIGHBOUR: 'it returns false'. Refute it at one input. -/
def fnStepDataWrong : ChangeSpec := { name := "fnStepData", fn := fun _ => fun
  | [d] => { results := [.lit (.bool false)], args := [d] }
  | _ => none }
def FnStepDataWrongFalsely : Prop := fnStepDataRow.holds Tryz.pinned (OpenSpec.ofChange fnStepDataWrong)

/-- 'laws.FnStepSsn': WHATEVER THE INPUT: true; the input reads as it did. -/
def fnStepSsnSpec : ChangeSpec := { name := "fnStepSsn", fn := fun _ => fun
  | [d] => { results := [.lit (.bool true)], args := [d] }
  | _ => none }
def fnStepSsnRow : OpenClaim := { program := "ytldoekmblpghmaagreat", sum := "0bbb0b181889a4668f4b38edca3421cf9ee567a475eae4d65c9b26daf3a796e8", func := "loop.example/capturemonitor/laws.FnStepSsn", spec := "fnStepSsn", apart := false }
def FnStepSsnSaid : Prop := fnStepSsnRow.holds Tryz.pinned (OpenSpec.ofChange fnStepSsnSpec)

/-- ITS FALSE NEIGHBOUR: 'it returns false'. Refute it at one input. -/
def fnStepSsnWrong : ChangeSpec := { name := "fnStepSsn", fn := fun _ => fun
  | [d] => { results := [.lit (.bool false)], args := [d] }
  | _ => none }
def FnStepSsnWrongFalsely : Prop := fnStepSsnRow.holds Tryz.pinned (OpenSpec.ofChange fnStepSsnWrong)

/-- 'laws.FnStepTsn': WHATEVER THE INPUT: true; the input reads as it did. -/
def fnStepTsnSpec : ChangeSpec := { name := "fnStepTsn", fn := fun _ => fun
  | [d] => { results := [.lit (.bool true)], args := [d] }
  | _ => none }
def fnStepTsnRow : OpenClaim := { program := "ytldoekmblpghmaagreat", sum := "0bbb0b181889a4668f4b38edca3421cf9ee567a475eae4d65c9b26daf3a796e8", func := "loop.example/capturemonitor/laws.FnStepTsn", spec := "fnStepTsn", apart := false }
def FnStepTsnSaid : Prop := fnStepTsnRow.holds Tryz.pinned (OpenSpec.ofChange fnStepTsnSpec)

/-- ITS FALSE NEIGHBOUR: 'it returns false'. Refute it at one input. -/
def fnStepTsnWrong : ChangeSpec := { name := "fnStepTsn", fn := fun _ => fun
  | [d] => { results := [.lit (.bool false)], args := [d] }
  | _ => none }
def FnStepTsnWrongFalsely : Prop := fnStepTsnRow.holds Tryz.pinned (OpenSpec.ofChange fnStepTsnWrong)

/- THE SECOND FORM. 'bulk': how many values and letters a reading holds, each counted each time it is reached (what is shared counts as often as it is met; a slice's spare places count too). A statement '..UptoSaid' is the law's where the arguments, and the package variables that the reading takes, are together of bulk at most 1048576: NARROWER than '..Said'. Prove '..Said' where nothing that the law and all that it calls make is longer than what came in: it says more and counts as full. Else prove '..UptoSaid'. A law counts once. -/
mutual
def uptoBulk {H : Type} : DataW H → Nat
  | .lit (.string bytes) => bytes.length + 1
  | .lit _ => 1
  | .nil => 1
  | .ptr d => uptoBulk d + 1
  | .slice elems spare => uptoBulkAll elems + uptoBulkAll spare + 1
  | .agg parts => uptoBulkAll parts + 1
  | .iface _ d => uptoBulk d + 1
  | .map entries => uptoBulkEntries entries + 1
  | .held _ => 1
def uptoBulkAll {H : Type} : List (DataW H) → Nat
  | [] => 0
  | d :: r => uptoBulk d + uptoBulkAll r
def uptoBulkEntries {H : Type} : List (Lit × DataW H) → Nat
  | [] => 0
  | x :: r => uptoBulkEntry x + uptoBulkEntries r
def uptoBulkEntry {H : Type} : Lit × DataW H → Nat
  | (.string bytes, d) => bytes.length + uptoBulk d + 1
  | (_, d) => uptoBulk d + 1
 end
def uptoSmall : (H : Type) → List (DataW H) → Bool := fun _ ds => decide (uptoBulkAll ds ≤ 1048576)
def OpenSpec.upto (s : _root_.Go.ChangeSpec) : _root_.Go.OpenSpec := { _root_.Go.OpenSpec.ofChange s with cond := some uptoSmall }

/-- 'laws.FnStep', WHERE WHAT IT READS IS OF BULK AT MOST 1048576: true; the input reads as it did. -/
def fnStepUptoRow : OpenClaim := { program := "ytldoekmblpghmaagreat", sum := "0bbb0b181889a4668f4b38edca3421cf9ee567a475eae4d65c9b26daf3a796e8", func := "loop.example/capturemonitor/laws.FnStep", spec := "fnStep", apart := false, narrowed := true }
def FnStepUptoSaid : Prop := fnStepUptoRow.holds Tryz.pinned (OpenSpec.upto fnStepSpec)

/-- 'laws.FnStepBroken', WHERE WHAT IT READS IS OF BULK AT MOST 1048576: true; the input reads as it did. -/
def fnStepBrokenUptoRow : OpenClaim := { program := "ytldoekmblpghmaagreat", sum := "0bbb0b181889a4668f4b38edca3421cf9ee567a475eae4d65c9b26daf3a796e8", func := "loop.example/capturemonitor/laws.FnStepBroken", spec := "fnStepBroken", apart := false, narrowed := true }
def FnStepBrokenUptoSaid : Prop := fnStepBrokenUptoRow.holds Tryz.pinned (OpenSpec.upto fnStepBrokenSpec)

/-- 'laws.FnStepPorts', WHERE WHAT IT READS IS OF BULK AT MOST 1048576: true; the input reads as it did. -/
def fnStepPortsUptoRow : OpenClaim := { program := "ytldoekmblpghmaagreat", sum := "0bbb0b181889a4668f4b38edca3421cf9ee567a475eae4d65c9b26daf3a796e8", func := "loop.example/capturemonitor/laws.FnStepPorts", spec := "fnStepPorts", apart := false, narrowed := true }
def FnStepPortsUptoSaid : Prop := fnStepPortsUptoRow.holds Tryz.pinned (OpenSpec.upto fnStepPortsSpec)

/-- 'laws.FnStepState', WHERE WHAT IT READS IS OF BULK AT MOST 1048576: true; the input reads as it did. -/
def fnStepStateUptoRow : OpenClaim := { program := "ytldoekmblpghmaagreat", sum := "0bbb0b181889a4668f4b38edca3421cf9ee567a475eae4d65c9b26daf3a796e8", func := "loop.example/capturemonitor/laws.FnStepState", spec := "fnStepState", apart := false, narrowed := true }
def FnStepStateUptoSaid : Prop := fnStepStateUptoRow.holds Tryz.pinned (OpenSpec.upto fnStepStateSpec)

/-- 'laws.FnStepTwice', WHERE WHAT IT READS IS OF BULK AT MOST 1048576: true; the input reads as it did. -/
def fnStepTwiceUptoRow : OpenClaim := { program := "ytldoekmblpghmaagreat", sum := "0bbb0b181889a4668f4b38edca3421cf9ee567a475eae4d65c9b26daf3a796e8", func := "loop.example/capturemonitor/laws.FnStepTwice", spec := "fnStepTwice", apart := false, narrowed := true }
def FnStepTwiceUptoSaid : Prop := fnStepTwiceUptoRow.holds Tryz.pinned (OpenSpec.upto fnStepTwiceSpec)

/-- 'laws.FnStepTag', WHERE WHAT IT READS IS OF BULK AT MOST 1048576: true; the input reads as it did. -/
def fnStepTagUptoRow : OpenClaim := { program := "ytldoekmblpghmaagreat", sum := "0bbb0b181889a4668f4b38edca3421cf9ee567a475eae4d65c9b26daf3a796e8", func := "loop.example/capturemonitor/laws.FnStepTag", spec := "fnStepTag", apart := false, narrowed := true }
def FnStepTagUptoSaid : Prop := fnStepTagUptoRow.holds Tryz.pinned (OpenSpec.upto fnStepTagSpec)

/-- 'laws.FnStepAcked', WHERE WHAT IT READS IS OF BULK AT MOST 1048576: true; the input reads as it did. -/
def fnStepAckedUptoRow : OpenClaim := { program := "ytldoekmblpghmaagreat", sum := "0bbb0b181889a4668f4b38edca3421cf9ee567a475eae4d65c9b26daf3a796e8", func := "loop.example/capturemonitor/laws.FnStepAcked", spec := "fnStepAcked", apart := false, narrowed := true }
def FnStepAckedUptoSaid : Prop := fnStepAckedUptoRow.holds Tryz.pinned (OpenSpec.upto fnStepAckedSpec)

/-- 'laws.FnStepSent', WHERE WHAT IT READS IS OF BULK AT MOST 1048576: true; the input reads as it did. -/
def fnStepSentUptoRow : OpenClaim := { program := "ytldoekmblpghmaagreat", sum := "0bbb0b181889a4668f4b38edca3421cf9ee567a475eae4d65c9b26daf3a796e8", func := "loop.example/capturemonitor/laws.FnStepSent", spec := "fnStepSent", apart := false, narrowed := true }
def FnStepSentUptoSaid : Prop := fnStepSentUptoRow.holds Tryz.pinned (OpenSpec.upto fnStepSentSpec)

/-- 'laws.FnStepAlone', WHERE WHAT IT READS IS OF BULK AT MOST 1048576: true; the input reads as it did. -/
def fnStepAloneUptoRow : OpenClaim := { program := "ytldoekmblpghmaagreat", sum := "0bbb0b181889a4668f4b38edca3421cf9ee567a475eae4d65c9b26daf3a796e8", func := "loop.example/capturemonitor/laws.FnStepAlone", spec := "fnStepAlone", apart := false, narrowed := true }
def FnStepAloneUptoSaid : Prop := fnStepAloneUptoRow.holds Tryz.pinned (OpenSpec.upto fnStepAloneSpec)

/-- 'laws.FnStepOver', WHERE WHAT IT READS IS OF BULK AT MOST 1048576: true; the input reads as it did. -/
def fnStepOverUptoRow : OpenClaim := { program := "ytldoekmblpghmaagreat", sum := "0bbb0b181889a4668f4b38edca3421cf9ee567a475eae4d65c9b26daf3a796e8", func := "loop.example/capturemonitor/laws.FnStepOver", spec := "fnStepOver", apart := false, narrowed := true }
def FnStepOverUptoSaid : Prop := fnStepOverUptoRow.holds Tryz.pinned (OpenSpec.upto fnStepOverSpec)

/-- 'laws.FnStepShut', WHERE WHAT IT READS IS OF BULK AT MOST 1048576: true; the input reads as it did. -/
def fnStepShutUptoRow : OpenClaim := { program := "ytldoekmblpghmaagreat", sum := "0bbb0b181889a4668f4b38edca3421cf9ee567a475eae4d65c9b26daf3a796e8", func := "loop.example/capturemonitor/laws.FnStepShut", spec := "fnStepShut", apart := false, narrowed := true }
def FnStepShutUptoSaid : Prop := fnStepShutUptoRow.holds Tryz.pinned (OpenSpec.upto fnStepShutSpec)

/-- 'laws.FnStepSaid', WHERE WHAT IT READS IS OF BULK AT MOST 1048576: true; the input reads as it did. -/
def fnStepSaidUptoRow : OpenClaim := { program := "ytldoekmblpghmaagreat", sum := "0bbb0b181889a4668f4b38edca3421cf9ee567a475eae4d65c9b26daf3a796e8", func := "loop.example/capturemonitor/laws.FnStepSaid", spec := "fnStepSaid", apart := false, narrowed := true }
def FnStepSaidUptoSaid : Prop := fnStepSaidUptoRow.holds Tryz.pinned (OpenSpec.upto fnStepSaidSpec)

/-- 'laws.FnStepAgain', WHERE WHAT IT READS IS OF BULK AT MOST 1048576: true; the input reads as it did. -/
def fnStepAgainUptoRow : OpenClaim := { program := "ytldoekmblpghmaagreat", sum := "0bbb0b181889a4668f4b38edca3421cf9ee567a475eae4d65c9b26daf3a796e8", func := "loop.example/capturemonitor/laws.FnStepAgain", spec := "fnStepAgain", apart := false, narrowed := true }
def FnStepAgainUptoSaid : Prop := fnStepAgainUptoRow.holds Tryz.pinned (OpenSpec.upto fnStepAgainSpec)

/-- 'laws.FnStepData', WHERE WHAT IT READS IS OF BULK AT MOST 1048576: true; the input reads as it did. -/
def fnStepDataUptoRow : OpenClaim := { program := "ytldoekmblpghmaagreat", sum := "0bbb0b181889a4668f4b38edca3421cf9ee567a475eae4d65c9b26daf3a796e8", func := "loop.example/capturemonitor/laws.FnStepData", spec := "fnStepData", apart := false, narrowed := true }
def FnStepDataUptoSaid : Prop := fnStepDataUptoRow.holds Tryz.pinned (OpenSpec.upto fnStepDataSpec)

/-- 'laws.FnStepSsn', WHERE WHAT IT READS IS OF BULK AT MOST 1048576: true; the input reads as it did. -/
def fnStepSsnUptoRow : OpenClaim := { program := "ytldoekmblpghmaagreat", sum := "0bbb0b181889a4668f4b38edca3421cf9ee567a475eae4d65c9b26daf3a796e8", func := "loop.example/capturemonitor/laws.FnStepSsn", spec := "fnStepSsn", apart := false, narrowed := true }
def FnStepSsnUptoSaid : Prop := fnStepSsnUptoRow.holds Tryz.pinned (OpenSpec.upto fnStepSsnSpec)

/-- 'laws.FnStepTsn', WHERE WHAT IT READS IS OF BULK AT MOST 1048576: true; the input reads as it did. -/
def fnStepTsnUptoRow : OpenClaim := { program := "ytldoekmblpghmaagreat", sum := "0bbb0b181889a4668f4b38edca3421cf9ee567a475eae4d65c9b26daf3a796e8", func := "loop.example/capturemonitor/laws.FnStepTsn", spec := "fnStepTsn", apart := false, narrowed := true }
def FnStepTsnUptoSaid : Prop := fnStepTsnUptoRow.holds Tryz.pinned (OpenSpec.upto fnStepTsnSpec)

end Rows
end Go.Proofs.YtldoekmblpghmaaGreat
