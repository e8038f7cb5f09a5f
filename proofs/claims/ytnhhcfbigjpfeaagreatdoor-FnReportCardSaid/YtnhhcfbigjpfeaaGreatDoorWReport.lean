/-
  The law 'FnReport' is proved: it returns true whatever the input, and the input reads as it did. What the listed variables of the library hold is tied to the program's text by the given card.
-/
import Derived.Test.YtnhhcfbigjpfeaaGreatDoorQ30
import Derived.Test.YtnhhcfbigjpfeaaGreatDoorCards
import Derived.Test.YtnhhcfbigjpfeaaGreatDoorTie
import Derived.Test.YtnhhcfbigjpfeaaGreatDoorQ31
namespace Go.Proofs.YtnhhcfbigjpfeaaGreatDoor
set_option linter.all false
section
set_option maxRecDepth 100000
def ac_laws_FnReport : AF := ⟨[0, 2, 3, 4, 5, 6, 9, 18, 24], [.t 2],
  .seq (.region [⟨(.g 2), .mv (.c (.bool false)), none⟩])
  (.seq (.seq (.region [⟨(.l 7), .mv (.g 0), none⟩, ⟨(.l 8), .len (.l 7), none⟩, ⟨(.g 9), .bin .gtr (.l 8) (.c (.int .i64 1048576)), none⟩])
  (.cond (.g 9) (.seq (.region [⟨(.g 2), .mv (.c (.bool true)), none⟩])
   (.ret))
  (.skip)))
  (.seq (.region [⟨(.l 10), .mv (.g 0), none⟩, ⟨(.l 11), .call fn_spec_DrawReportText [(.l 10)], none⟩, ⟨(.g 3), .alloc [(.int .i64 0), .nils, .nils], none⟩, ⟨.no, .store 3 (.g 3) (.l 11), none⟩])
  (.seq (.region [⟨(.l 12), .load true 3 (.g 3), none⟩, ⟨(.l 13), .call fn_impl_ReportText [(.l 12)], none⟩, ⟨(.g 4), .mv (.l 13), none⟩])
  (.seq (.region [⟨(.l 14), .load true 3 (.g 3), none⟩, ⟨(.l 15), .call fn_spec_ReportText [(.l 14)], none⟩, ⟨(.g 5), .mv (.l 15), none⟩])
  (.seq (.seq (.region [⟨(.l 16), .mv (.g 4), none⟩, ⟨(.l 17), .mv (.g 5), none⟩, ⟨(.g 18), .bin .neq (.l 16) (.l 17), none⟩])
  (.cond (.g 18) (.seq (.region [⟨(.l 19), .mv (.g 4), none⟩, ⟨(.l 20), .mv (.g 5), none⟩, ⟨(.l 21), .bin .eql (.l 19) (.l 20), none⟩, ⟨(.g 2), .mv (.l 21), none⟩])
   (.ret))
  (.skip)))
  (.seq (.seq (.region [⟨(.l 22), .load true 3 (.g 3), none⟩, ⟨(.l 23), .call fn_impl_MonitorValid [(.l 22)], none⟩, ⟨(.g 24), .un .not (.l 23), none⟩])
  (.cond (.g 24) (.seq (.region [⟨(.l 25), .mv (.g 4), none⟩, ⟨(.l 26), .bin .eql (.l 25) (.c (.str [])), none⟩, ⟨(.g 2), .mv (.l 26), none⟩])
   (.ret))
  (.skip)))
  (.seq (.region [⟨(.l 27), .faddr 2 (.g 3), none⟩, ⟨(.l 28), .load false 1 (.l 27), none⟩, ⟨(.l 29), .call fn_impl_FindingsText [(.l 28)], none⟩, ⟨(.g 6), .mv (.l 29), none⟩])
  (.seq (.region [⟨(.l 30), .mv (.g 4), none⟩, ⟨(.l 31), .cutStr (.l 30) none (some (.c (.int .i64 8))), none⟩, ⟨(.l 32), .bin .eql (.l 31) (.c (.str [114, 101, 99, 111, 114, 100, 115, 32])), none⟩, ⟨(.l 33), .mv (.l 32), none⟩, ⟨(.l 34), .mv (.g 4), (some ((.l 33), true))⟩, ⟨(.l 35), .mv (.g 4), (some ((.l 33), true))⟩, ⟨(.l 36), .lenStr (.l 35), (some ((.l 33), true))⟩, ⟨(.l 37), .mv (.g 6), (some ((.l 33), true))⟩, ⟨(.l 38), .lenStr (.l 37), (some ((.l 33), true))⟩, ⟨(.l 39), .bin .sub (.l 36) (.l 38), (some ((.l 33), true))⟩, ⟨(.l 40), .cutStr (.l 34) (some (.l 39)) none, (some ((.l 33), true))⟩, ⟨(.l 41), .mv (.g 6), (some ((.l 33), true))⟩, ⟨(.l 42), .bin .eql (.l 40) (.l 41), (some ((.l 33), true))⟩, ⟨(.l 43), .pick (.l 33) (.l 42) (.c (.bool false)), none⟩, ⟨(.g 2), .mv (.l 43), none⟩])
  (.ret)))))))))⟩
theorem ln_laws_FnReport : Linked Tryz.prog fn_laws_FnReport ac_laws_FnReport := ⟨Tryz.f3, _, Tryz.func3, rfl, by kernel_rfl, by kernel_rfl, by kernel_rfl, by kernel_rfl⟩
end
end Go.Proofs.YtnhhcfbigjpfeaaGreatDoor

namespace Go.Proofs.YtnhhcfbigjpfeaaGreatDoor
set_option linter.all false
section
set_option maxRecDepth 200000
set_option maxHeartbeats 8000000
attribute [-simp] List.getD_eq_getElem?_getD

theorem FnReport_ok (code : List UInt8) : Fn Tryz.prog fn_laws_FnReport [bsl code] [] (.bool true) [] := by
  obtain ⟨m, hm, f1⟩ := DrawReportText_ok code
  have g1 := impl_ReportText_ok m hm.bd
  have g2 := spec_ReportText_ok m hm.bd
  have g3 := impl_MonitorValid_ok m hm.bd
  have hff := hm.found
  have c3 := impl_FindingsText_ok m.found (by omega)
  have hlen := reportT_len hm.bd
  simp only [mon_v, fsl] at f1 g1 g2 g3 c3
  refine Fn.of_go ln_laws_FnReport rfl ?_
  simp [ac_laws_FnReport, bsl]
  refine goTest_dec (fun h0 => ?_) (fun h0 => ?_)
  · simp
    exact Ends.mk [] [] (by simp)
  simp
  refine goCall_eq f1 (by simp [bsl]) ?_
  simp
  refine goCall_eq g1 (by simp) ?_
  simp
  refine goCall_eq g2 (by simp) ?_
  simp
  refine goCall_eq g3 (by simp) ?_
  cases hok : m.ok
  · simp
    exact Ends.mk [] [] (by simp [reportT, hok])
  have mo := mon_iff.1 hok
  have hrec := mo.recs
  have c5 : ftext m.found = textF m.found := by unfold ftext; rw [if_pos (fsOk_60 (by omega) mo.found)]
  rw [c5] at c3
  simp
  refine goCall_eq c3 (by simp) ?_
  have er : reportT m = (recT m ++ listT m.list ++ ([102, 111, 117, 110, 100, 32] ++ decS m.found.length ++ [10])) ++ textF m.found := by
    unfold reportT
    rw [if_pos hok]
    simp [endT]
  have e8 : (reportT m).take 8 = [114, 101, 99, 111, 114, 100, 115, 32] := by
    rw [er]
    simp [recT]
  have el : (reportT m).drop ((reportT m).length - (textF m.found).length) = textF m.found := by
    rw [er, List.length_append, Nat.add_sub_cancel]
    exact List.drop_left
  have hle : (textF m.found).length ≤ (reportT m).length := by rw [er, List.length_append]; omega
  have h8 : 8 ≤ (reportT m).length := by
    have := congrArg List.length e8
    simp at this
    omega
  generalize reportT m = R at *
  generalize textF m.found = X at *
  simp [e8]
  exact ⟨by omega, by omega, by omega, Ends.mk [] [] (by simp [el])⟩
end
end Go.Proofs.YtnhhcfbigjpfeaaGreatDoor

namespace Go.Proofs.YtnhhcfbigjpfeaaGreatDoor.fnReport
open Go.ChangeShapes Go.WideShapes Go.ChangeAt Go.RowKit
set_option linter.all false

theorem table {W : World} (h : laidMetH Tryz.prog Rows.fnReportRow.laid W) : Lib.TabIs Tryz.prog W "internal/strconv.uint64pow10" .u64 Lib.pow10Tab := pow10_of h

set_option maxRecDepth 100000 in
theorem contract (H : Type) (enc : TypeId × Value → H) (W : World) (base : Nat) (args : Array Value) (ds gs : List (DataW H)) (before : List MemPlace)
    (hval : ∀ (j : Nat) t v, Tryz.f3.params[j]? = some t → args[j]? = some v → Value.okWide Tryz.prog W .any base t v)
    (hW : DataW.Whole enc Tryz.prog Tryz.f3.params.toList Rows.fnReportSpec.vars false W args.toList ds gs before) (hL : laidMetH Tryz.prog Rows.fnReportRow.laid W) (hsh : W.ShapedOpen Tryz.prog) :
    Calls Tryz.prog 3 args W fun e W' => ∃ v, e = .returned v ∧ Rows.fnReportSpec.post enc Tryz.prog Tryz.f3 false true false false W args v W' := by
  have hW' := hW
  obtain ⟨p, q, hA0, hV, rfl, hfz, hnd⟩ := hW
  have hA : DataW.TrodAll enc Tryz.prog W 0 (fun _ => true) true Tryz.f3.params.toList args.toList ds p := hA0
  rw [Tryz.params3] at hA hval
  obtain ⟨v0, d0, rfl, rfl, h0⟩ := trodAll_one hA
  obtain ⟨rfl, rfl⟩ := trodVars_none hV
  clear hA0
  simp only [List.append_nil] at hW'
  obtain ⟨l0, hl0⟩ := open_bytes Tryz.underlying22 Tryz.underlying5 (by kernel_rfl) (hval 0 22 v0 rfl rfl) h0
  refine ((FnReport_ok l0).calls_true rfl W [v0] (tabsD (table hL) hsh) (rel_one hl0)).mono fun e W' ⟨he, hb⟩ => ?_
  subst he
  have hlt : ∀ x ∈ p, x.block < W.heap.size := fun x hx => by simpa using hW'.lt x hx
  have hargs := Below.trod laidOut (by kernel_rfl) (of_decide_eq_true (by kernel_rfl)) h0 hb hlt
  exact ⟨_, rfl, ⟨_, _, _, [], _, [], hW', trodAll_mk1 (shut_bool Tryz.underlying4 _), trodAll_mk1 hargs, rfl, hb.frame _, fun h => by cases h⟩⟩

set_option maxRecDepth 100000 in
theorem laid_met (os : Os) : laidMet Tryz.prog Rows.fnReportRow.laid ((laidWorld os).forCall (fun _ _ => 0) ⟨#[], #[.slice none 0 0], []⟩).memory :=
  laidMet_of_run' 8 (by kernel_rfl) (by kernel_rfl)
set_option maxRecDepth 100000 in
theorem reads (os : Os) {H : Type} (enc : TypeId × Value → H) : ∃ places, DataW.whole enc Tryz.prog ((laidWorld os).forCall (fun _ _ => 0) ⟨#[], #[.slice none 0 0], []⟩).memory Tryz.f3.params.toList Rows.fnReportSpec.vars false #[Value.slice none 0 0].toList 8 = some ([.nil], [], places) :=
  ⟨[], by kernel_rfl⟩

set_option maxRecDepth 100000 in
theorem lifted (os : Os) (started : os.Started) (H : Type) (enc : TypeId × Value → H) (F : Stop.Interp) :
    ReturnsInHanded {} Tryz.checked os 3 .any ((OpenSpec.ofChange Rows.fnReportSpec).preRow enc Tryz.prog Tryz.f3 Rows.fnReportRow.domain false Rows.fnReportRow.laid) (((OpenSpec.ofChange Rows.fnReportSpec).at F).post enc Tryz.prog Tryz.f3 false true false false) := by
  obtain ⟨places, hx⟩ := reads os enc
  refine returnsInHanded_of_row (C := Tryz.checked) (s := OpenSpec.ofChange Rows.fnReportSpec) own started (by kernel_rfl) Tryz.func3
    (witness_row_at (enc := enc) (C := Tryz.checked) false (laidWorld os) #[.slice none 0 0] rfl (by kernel_rfl) (by kernel_rfl) (by kernel_rfl)
      (OpenSpec.preRow_of_cond 8 hx (by kernel_rfl) (fun k hk => by cases hk) (by kernel_rfl) (laid_met os))) ?_
  intro W base args ds gs before hval hW _ _ _ hL hsh _
  exact contract H enc W base args ds gs before hval hW hL hsh

set_option maxRecDepth 100000 in
theorem said : Rows.FnReportSaid :=
  OpenClaim.holds_of_cond 3 Tryz.f3 rfl rfl rfl rfl rfl rfl rfl ⟨rfl, rfl, rfl, rfl, rfl⟩ rfl rfl rfl rfl rfl (by kernel_rfl) Tryz.func3 (by kernel_rfl)
    (of_decide_eq_true (by kernel_rfl)) (by unfold Func.isWrapper; first | (rw [if_pos (by decide +kernel)]; kernel_rfl) | (rw [if_neg (by decide +kernel)]; exact ⟨rfl, rfl⟩))
    (fun os started H enc _ F => by rw [OpenClaim.pre_eq_preRow]; exact lifted os started H enc F)

set_option maxRecDepth 100000 in
theorem plain (f : FuncId) (fn : Func) (hf : Tryz.pinned.checked.prog.funcNamed "loop.example/capturemonitor/laws.FnReport" = some f) (hfn : Tryz.pinned.checked.prog.funcs[f]? = some fn) :
    false = Tryz.pinned.checked.prog.looks [] ∧ ∀ (j : Nat) t, fn.params[j]? = some t → Tryz.pinned.checked.prog.wantsStandIn t = false := by
  obtain rfl : f = 3 := Option.some.inj ((show Tryz.prog.funcNamed "loop.example/capturemonitor/laws.FnReport" = some 3 by kernel_rfl).symm.trans hf) |>.symm
  obtain rfl : fn = Tryz.f3 := (Option.some.inj (Tryz.func3.symm.trans hfn)).symm
  refine ⟨by kernel_rfl, fun j t ht => ?_⟩
  rw [Tryz.params3] at ht
  obtain rfl : t = 22 := by simpa using Array.mem_of_getElem? ht
  exact (show Tryz.prog.wantsStandIn 22 = false by kernel_rfl)

set_option maxRecDepth 100000 in
theorem card : Rows.FnReportCardSaid :=
  Claim7.holds_tied_plain_at .later [] _ _ _ _ said (fun _ h => by cases h) (by kernel_rfl) (fun _ h => by cases h) fnReport_row_tie rfl ⟨rfl, rfl⟩ (by kernel_rfl) rfl plain (by kernel_rfl)
end Go.Proofs.YtnhhcfbigjpfeaaGreatDoor.fnReport
