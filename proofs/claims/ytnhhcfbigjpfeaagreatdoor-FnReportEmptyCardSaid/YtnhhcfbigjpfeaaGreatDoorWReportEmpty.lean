/-
  The law 'FnReportEmpty' is proved: it returns true whatever the input, and the input reads as it did. What the listed variables of the library hold is tied to the program's text by the given card.
-/
import Derived.Test.YtnhhcfbigjpfeaaGreatDoorQ30
import Derived.Test.YtnhhcfbigjpfeaaGreatDoorCards
import Derived.Test.YtnhhcfbigjpfeaaGreatDoorTie
import Derived.Test.YtnhhcfbigjpfeaaGreatDoorQ31
namespace Go.Proofs.YtnhhcfbigjpfeaaGreatDoor
set_option linter.all false
section
set_option maxRecDepth 100000
def ac_laws_FnReportEmpty : AF := ⟨[0, 2, 3, 4, 5, 8, 17], [.t 2],
  .seq (.region [⟨(.g 2), .mv (.c (.bool false)), none⟩])
  (.seq (.seq (.region [⟨(.l 6), .mv (.g 0), none⟩, ⟨(.l 7), .len (.l 6), none⟩, ⟨(.g 8), .bin .gtr (.l 7) (.c (.int .i64 1048576)), none⟩])
  (.cond (.g 8) (.seq (.region [⟨(.g 2), .mv (.c (.bool true)), none⟩])
   (.ret))
  (.skip)))
  (.seq (.region [⟨(.l 9), .mv (.g 0), none⟩, ⟨(.l 10), .call fn_spec_DrawReportText [(.l 9)], none⟩, ⟨(.g 3), .alloc [(.int .i64 0), .nils, .nils], none⟩, ⟨.no, .store 3 (.g 3) (.l 10), none⟩])
  (.seq (.region [⟨(.l 11), .load true 3 (.g 3), none⟩, ⟨(.l 12), .call fn_impl_ReportText [(.l 11)], none⟩, ⟨(.g 4), .mv (.l 12), none⟩])
  (.seq (.region [⟨(.l 13), .load true 3 (.g 3), none⟩, ⟨(.l 14), .call fn_spec_ReportText [(.l 13)], none⟩, ⟨(.g 5), .mv (.l 14), none⟩])
  (.seq (.seq (.region [⟨(.l 15), .mv (.g 4), none⟩, ⟨(.l 16), .mv (.g 5), none⟩, ⟨(.g 17), .bin .neq (.l 15) (.l 16), none⟩])
  (.cond (.g 17) (.seq (.region [⟨(.l 18), .mv (.g 4), none⟩, ⟨(.l 19), .mv (.g 5), none⟩, ⟨(.l 20), .bin .eql (.l 18) (.l 19), none⟩, ⟨(.g 2), .mv (.l 20), none⟩])
   (.ret))
  (.skip)))
  (.seq (.region [⟨(.l 21), .build [(.int .i64 0), .nils, .nils] [], none⟩, ⟨(.l 22), .call fn_impl_ReportText [(.l 21)], none⟩, ⟨(.l 23), .bin .eql (.l 22) (.c (.str [114, 101, 99, 111, 114, 100, 115, 32, 48, 10, 102, 111, 117, 110, 100, 32, 48, 10])), none⟩, ⟨(.g 2), .mv (.l 23), none⟩])
  (.ret)))))))⟩
theorem ln_laws_FnReportEmpty : Linked Tryz.prog fn_laws_FnReportEmpty ac_laws_FnReportEmpty := ⟨Tryz.f4, _, Tryz.func4, rfl, by kernel_rfl, by kernel_rfl, by kernel_rfl, by kernel_rfl⟩
end
end Go.Proofs.YtnhhcfbigjpfeaaGreatDoor

namespace Go.Proofs.YtnhhcfbigjpfeaaGreatDoor
set_option linter.all false
section
set_option maxRecDepth 200000
set_option maxHeartbeats 8000000
attribute [-simp] List.getD_eq_getElem?_getD

theorem FnReportEmpty_ok (code : List UInt8) : Fn Tryz.prog fn_laws_FnReportEmpty [bsl code] [] (.bool true) [] := by
  obtain ⟨m, hm, f1⟩ := DrawReportText_ok code
  have g1 := impl_ReportText_ok m hm.bd
  have g2 := spec_ReportText_ok m hm.bd
  have g3 := impl_ReportText_ok ⟨0, [], []⟩ ⟨by simp, by simp, by simp, by simp⟩
  have hv : reportT ⟨0, [], []⟩ = [114, 101, 99, 111, 114, 100, 115, 32, 48, 10, 102, 111, 117, 110, 100, 32, 48, 10] := by
    have ho : (⟨0, [], []⟩ : Monitor).ok = true := by decide
    have e0 : decS 0 = [48] := by rw [decS]; simp
    unfold reportT
    rw [if_pos ho]
    simp [recT, listT, endT, textF, e0]
  rw [hv] at g3
  simp only [mon_v, fsl] at f1 g1 g2 g3
  simp at g3
  refine Fn.of_go ln_laws_FnReportEmpty rfl ?_
  simp [ac_laws_FnReportEmpty, bsl]
  refine goTest_dec (fun h0 => ?_) (fun h0 => ?_)
  · simp
    exact Ends.mk [] [] (by simp)
  simp
  refine goCall_eq f1 (by simp [bsl]) ?_
  simp
  refine goCall_eq g1 (by simp) ?_
  simp
  refine goCall_eq g2 (by simp) ?_
  simp
  refine goCall_gen [] [] [] [] none g3 (by simp) ?_
  simp
  exact Ends.mk [] [] (by simp)
end
end Go.Proofs.YtnhhcfbigjpfeaaGreatDoor

namespace Go.Proofs.YtnhhcfbigjpfeaaGreatDoor.fnReportEmpty
open Go.ChangeShapes Go.WideShapes Go.ChangeAt Go.RowKit
set_option linter.all false

theorem table {W : World} (h : laidMetH Tryz.prog Rows.fnReportEmptyRow.laid W) : Lib.TabIs Tryz.prog W "internal/strconv.uint64pow10" .u64 Lib.pow10Tab := pow10_of h

set_option maxRecDepth 100000 in
theorem contract (H : Type) (enc : TypeId × Value → H) (W : World) (base : Nat) (args : Array Value) (ds gs : List (DataW H)) (before : List MemPlace)
    (hval : ∀ (j : Nat) t v, Tryz.f4.params[j]? = some t → args[j]? = some v → Value.okWide Tryz.prog W .any base t v)
    (hW : DataW.Whole enc Tryz.prog Tryz.f4.params.toList Rows.fnReportEmptySpec.vars false W args.toList ds gs before) (hL : laidMetH Tryz.prog Rows.fnReportEmptyRow.laid W) (hsh : W.ShapedOpen Tryz.prog) :
    Calls Tryz.prog 4 args W fun e W' => ∃ v, e = .returned v ∧ Rows.fnReportEmptySpec.post enc Tryz.prog Tryz.f4 false true false false W args v W' := by
  have hW' := hW
  obtain ⟨p, q, hA0, hV, rfl, hfz, hnd⟩ := hW
  have hA : DataW.TrodAll enc Tryz.prog W 0 (fun _ => true) true Tryz.f4.params.toList args.toList ds p := hA0
  rw [Tryz.params4] at hA hval
  obtain ⟨v0, d0, rfl, rfl, h0⟩ := trodAll_one hA
  obtain ⟨rfl, rfl⟩ := trodVars_none hV
  clear hA0
  simp only [List.append_nil] at hW'
  obtain ⟨l0, hl0⟩ := open_bytes Tryz.underlying22 Tryz.underlying5 (by kernel_rfl) (hval 0 22 v0 rfl rfl) h0
  refine ((FnReportEmpty_ok l0).calls_true rfl W [v0] (tabsD (table hL) hsh) (rel_one hl0)).mono fun e W' ⟨he, hb⟩ => ?_
  subst he
  have hlt : ∀ x ∈ p, x.block < W.heap.size := fun x hx => by simpa using hW'.lt x hx
  have hargs := Below.trod laidOut (by kernel_rfl) (of_decide_eq_true (by kernel_rfl)) h0 hb hlt
  exact ⟨_, rfl, ⟨_, _, _, [], _, [], hW', trodAll_mk1 (shut_bool Tryz.underlying4 _), trodAll_mk1 hargs, rfl, hb.frame _, fun h => by cases h⟩⟩

set_option maxRecDepth 100000 in
theorem laid_met (os : Os) : laidMet Tryz.prog Rows.fnReportEmptyRow.laid ((laidWorld os).forCall (fun _ _ => 0) ⟨#[], #[.slice none 0 0], []⟩).memory :=
  laidMet_of_run' 8 (by kernel_rfl) (by kernel_rfl)
set_option maxRecDepth 100000 in
theorem reads (os : Os) {H : Type} (enc : TypeId × Value → H) : ∃ places, DataW.whole enc Tryz.prog ((laidWorld os).forCall (fun _ _ => 0) ⟨#[], #[.slice none 0 0], []⟩).memory Tryz.f4.params.toList Rows.fnReportEmptySpec.vars false #[Value.slice none 0 0].toList 8 = some ([.nil], [], places) :=
  ⟨[], by kernel_rfl⟩

set_option maxRecDepth 100000 in
theorem lifted (os : Os) (started : os.Started) (H : Type) (enc : TypeId × Value → H) (F : Stop.Interp) :
    ReturnsInHanded {} Tryz.checked os 4 .any ((OpenSpec.ofChange Rows.fnReportEmptySpec).preRow enc Tryz.prog Tryz.f4 Rows.fnReportEmptyRow.domain false Rows.fnReportEmptyRow.laid) (((OpenSpec.ofChange Rows.fnReportEmptySpec).at F).post enc Tryz.prog Tryz.f4 false true false false) := by
  obtain ⟨places, hx⟩ := reads os enc
  refine returnsInHanded_of_row (C := Tryz.checked) (s := OpenSpec.ofChange Rows.fnReportEmptySpec) own started (by kernel_rfl) Tryz.func4
    (witness_row_at (enc := enc) (C := Tryz.checked) false (laidWorld os) #[.slice none 0 0] rfl (by kernel_rfl) (by kernel_rfl) (by kernel_rfl)
      (OpenSpec.preRow_of_cond 8 hx (by kernel_rfl) (fun k hk => by cases hk) (by kernel_rfl) (laid_met os))) ?_
  intro W base args ds gs before hval hW _ _ _ hL hsh _
  exact contract H enc W base args ds gs before hval hW hL hsh

set_option maxRecDepth 100000 in
theorem said : Rows.FnReportEmptySaid :=
  OpenClaim.holds_of_cond 4 Tryz.f4 rfl rfl rfl rfl rfl rfl rfl ⟨rfl, rfl, rfl, rfl, rfl⟩ rfl rfl rfl rfl rfl (by kernel_rfl) Tryz.func4 (by kernel_rfl)
    (of_decide_eq_true (by kernel_rfl)) (by unfold Func.isWrapper; first | (rw [if_pos (by decide +kernel)]; kernel_rfl) | (rw [if_neg (by decide +kernel)]; exact ⟨rfl, rfl⟩))
    (fun os started H enc _ F => by rw [OpenClaim.pre_eq_preRow]; exact lifted os started H enc F)

set_option maxRecDepth 100000 in
theorem plain (f : FuncId) (fn : Func) (hf : Tryz.pinned.checked.prog.funcNamed "loop.example/capturemonitor/laws.FnReportEmpty" = some f) (hfn : Tryz.pinned.checked.prog.funcs[f]? = some fn) :
    false = Tryz.pinned.checked.prog.looks [] ∧ ∀ (j : Nat) t, fn.params[j]? = some t → Tryz.pinned.checked.prog.wantsStandIn t = false := by
  obtain rfl : f = 4 := Option.some.inj ((show Tryz.prog.funcNamed "loop.example/capturemonitor/laws.FnReportEmpty" = some 4 by kernel_rfl).symm.trans hf) |>.symm
  obtain rfl : fn = Tryz.f4 := (Option.some.inj (Tryz.func4.symm.trans hfn)).symm
  refine ⟨by kernel_rfl, fun j t ht => ?_⟩
  rw [Tryz.params4] at ht
  obtain rfl : t = 22 := by simpa using Array.mem_of_getElem? ht
  exact (show Tryz.prog.wantsStandIn 22 = false by kernel_rfl)

set_option maxRecDepth 100000 in
theorem card : Rows.FnReportEmptyCardSaid :=
  Claim7.holds_tied_plain_at .later [] _ _ _ _ said (fun _ h => by cases h) (by kernel_rfl) (fun _ h => by cases h) fnReportEmpty_row_tie rfl ⟨rfl, rfl⟩ (by kernel_rfl) rfl plain (by kernel_rfl)
end Go.Proofs.YtnhhcfbigjpfeaaGreatDoor.fnReportEmpty
