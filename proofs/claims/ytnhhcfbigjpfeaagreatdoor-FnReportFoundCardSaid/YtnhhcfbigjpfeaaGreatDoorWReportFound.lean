/-
  The law 'FnReportFound' is proved: it returns true whatever the input, and the input reads as it did. What the listed variables of the library hold is tied to the program's text by the given card.
-/
import Derived.Test.YtnhhcfbigjpfeaaGreatDoorQ30
import Derived.Test.YtnhhcfbigjpfeaaGreatDoorCards
import Derived.Test.YtnhhcfbigjpfeaaGreatDoorTie
import Derived.Test.YtnhhcfbigjpfeaaGreatDoorQ31
namespace Go.Proofs.YtnhhcfbigjpfeaaGreatDoor
set_option linter.all false
section
set_option maxRecDepth 100000
def ac_laws_FnReportFound : AF := ⟨[0, 2, 3, 4, 5, 6, 7, 10, 23], [.t 2],
  .seq (.region [⟨(.g 2), .mv (.c (.bool false)), none⟩])
  (.seq (.seq (.region [⟨(.l 8), .mv (.g 0), none⟩, ⟨(.l 9), .len (.l 8), none⟩, ⟨(.g 10), .bin .gtr (.l 9) (.c (.int .i64 1048576)), none⟩])
  (.cond (.g 10) (.seq (.region [⟨(.g 2), .mv (.c (.bool true)), none⟩])
   (.ret))
  (.skip)))
  (.seq (.region [⟨(.l 11), .mv (.g 0), none⟩, ⟨(.l 12), .call fn_spec_DrawReportText [(.l 11)], none⟩, ⟨(.g 3), .alloc [(.int .i64 0), .nils, .nils], none⟩, ⟨.no, .store 3 (.g 3) (.l 12), none⟩])
  (.seq (.region [⟨(.l 13), .load true 3 (.g 3), none⟩, ⟨(.l 14), .call fn_impl_ReportText [(.l 13)], none⟩, ⟨(.g 4), .mv (.l 14), none⟩])
  (.seq (.region [⟨(.l 15), .load true 3 (.g 3), none⟩, ⟨(.l 16), .call fn_spec_ReportText [(.l 15)], none⟩, ⟨(.g 5), .mv (.l 16), none⟩])
  (.seq (.seq (.region [⟨(.l 17), .mv (.g 4), none⟩, ⟨(.l 18), .mv (.g 5), none⟩, ⟨(.l 19), .bin .neq (.l 17) (.l 18), none⟩, ⟨(.l 20), .mv (.l 19), none⟩, ⟨(.l 21), .mv (.g 4), (some ((.l 20), false))⟩, ⟨(.l 22), .bin .eql (.l 21) (.c (.str [])), (some ((.l 20), false))⟩, ⟨(.g 23), .pick (.l 20) (.c (.bool true)) (.l 22), none⟩])
  (.cond (.g 23) (.seq (.region [⟨(.l 24), .mv (.g 4), none⟩, ⟨(.l 25), .mv (.g 5), none⟩, ⟨(.l 26), .bin .eql (.l 24) (.l 25), none⟩, ⟨(.g 2), .mv (.l 26), none⟩])
   (.ret))
  (.skip)))
  (.seq (.region [⟨(.l 27), .faddr 0 (.g 3), none⟩, ⟨(.l 28), .load false 1 (.l 27), none⟩, ⟨(.l 29), .faddr 2 (.g 3), none⟩, ⟨(.l 30), .load false 1 (.l 29), none⟩, ⟨(.l 31), .build [(.int .i64 0), .nils, .nils] [(0, 1, (.l 28)), (2, 1, (.l 30))], none⟩, ⟨(.l 32), .call fn_impl_ReportText [(.l 31)], none⟩, ⟨(.g 6), .mv (.l 32), none⟩])
  (.seq (.region [⟨(.l 33), .faddr 2 (.g 3), none⟩, ⟨(.l 34), .load false 1 (.l 33), none⟩, ⟨(.l 35), .call fn_impl_FindingsText [(.l 34)], none⟩, ⟨(.l 36), .lenStr (.l 35), none⟩, ⟨(.l 37), .bin .add (.c (.int .i64 6)) (.l 36), none⟩, ⟨(.l 38), .bin .add (.l 37) (.c (.int .i64 2)), none⟩, ⟨(.g 7), .mv (.l 38), none⟩])
  (.seq (.drawn [⟨(.l 39), .mv (.g 6), none⟩, ⟨(.l 40), .call fn_laws_lines [(.l 39)], none⟩, ⟨(.l 41), .faddr 2 (.g 3), none⟩, ⟨(.l 42), .load false 1 (.l 41), none⟩, ⟨(.l 43), .len (.l 42), none⟩, ⟨(.l 44), .bin .add (.c (.int .i64 2)) (.l 43), none⟩, ⟨(.l 45), .bin .eql (.l 40) (.l 44), none⟩, ⟨(.l 46), .mv (.l 45), none⟩, ⟨(.l 47), .mv (.g 4), (some ((.l 46), true))⟩, ⟨(.l 48), .mv (.g 4), (some ((.l 46), true))⟩, ⟨(.l 49), .lenStr (.l 48), (some ((.l 46), true))⟩, ⟨(.l 50), .mv (.g 7), (some ((.l 46), true))⟩, ⟨(.l 51), .bin .sub (.l 49) (.l 50), (some ((.l 46), true))⟩, ⟨(.l 52), .cutStr (.l 47) (some (.l 51)) none, (some ((.l 46), true))⟩, ⟨(.l 53), .mv (.g 6), (some ((.l 46), true))⟩, ⟨(.l 54), .mv (.g 6), (some ((.l 46), true))⟩, ⟨(.l 55), .lenStr (.l 54), (some ((.l 46), true))⟩, ⟨(.l 56), .mv (.g 7), (some ((.l 46), true))⟩, ⟨(.l 57), .bin .sub (.l 55) (.l 56), (some ((.l 46), true))⟩, ⟨(.l 58), .cutStr (.l 53) (some (.l 57)) none, (some ((.l 46), true))⟩] [[], [], [], [1], [1], [], [], [], [], [], [], [], [], [], [], [], [], [], [], []] [⟨(.l 59), .bin .eql (.l 52) (.l 58), (some ((.l 46), true))⟩, ⟨(.l 60), .pick (.l 46) (.l 59) (.c (.bool false)), none⟩, ⟨(.g 2), .mv (.l 60), none⟩])
  (.ret)))))))))⟩
theorem ln_laws_FnReportFound : Linked Tryz.prog fn_laws_FnReportFound ac_laws_FnReportFound := ⟨Tryz.f5, _, Tryz.func5, rfl, by kernel_rfl, by kernel_rfl, by kernel_rfl, by kernel_rfl⟩
end
end Go.Proofs.YtnhhcfbigjpfeaaGreatDoor

namespace Go.Proofs.YtnhhcfbigjpfeaaGreatDoor
set_option linter.all false
section
set_option maxRecDepth 200000
set_option maxHeartbeats 8000000
attribute [-simp] List.getD_eq_getElem?_getD

theorem FnReportFound_ok (code : List UInt8) : Fn Tryz.prog fn_laws_FnReportFound [bsl code] [] (.bool true) [] := by
  obtain ⟨m, hm, f1⟩ := DrawReportText_ok code
  have g1 := impl_ReportText_ok m hm.bd
  have g2 := spec_ReportText_ok m hm.bd
  have hbd : (⟨m.records, [], m.found⟩ : Monitor).bd := ⟨hm.bd.recs, by simp, by simp, hm.bd.found⟩
  have g3 := impl_ReportText_ok ⟨m.records, [], m.found⟩ hbd
  have hff := hm.found
  have c3 := impl_FindingsText_ok m.found (by omega)
  have hlen := reportT_len hm.bd
  have hlen2 := reportT_len hbd
  simp only [mon_v, fsl] at f1 g1 g2 g3 c3
  simp only [List.map_nil] at g3
  refine Fn.of_go ln_laws_FnReportFound rfl ?_
  simp [ac_laws_FnReportFound, bsl]
  refine goTest_dec (fun h0 => ?_) (fun h0 => ?_)
  · simp
    exact Ends.mk [] [] (by simp)
  simp
  refine goCall_eq f1 (by simp [bsl]) ?_
  simp
  refine goCall_eq g1 (by simp) ?_
  simp
  refine goCall_eq g2 (by simp) ?_
  simp
  refine goTest_dec (fun h1 => ?_) (fun h1 => ?_)
  · simp
    exact Ends.mk [] [] (by simp)
  have hok : m.ok = true := by
    cases h : m.ok
    · exact absurd (by unfold reportT; rw [h]; rfl) h1
    · rfl
  have mo := mon_iff.1 hok
  have hrec := mo.recs
  have hok2 : (⟨m.records, [], m.found⟩ : Monitor).ok = true := mon_iff.2 ⟨mo.recs, by simp, by simp, by simp, mo.found⟩
  have h60 := fsOk_60 (by omega) mo.found
  have c5 : ftext m.found = textF m.found := by unfold ftext; rw [if_pos h60]
  rw [c5] at c3
  have e1 : reportT m = (recT m ++ listT m.list) ++ endT m := by unfold reportT; rw [if_pos hok]
  have e2 : reportT ⟨m.records, [], m.found⟩ = recT m ++ endT m := by
    unfold reportT
    rw [if_pos hok2]
    simp [listT, recT, endT]
  have ec : (reportT ⟨m.records, [], m.found⟩).count 10 = 2 + m.found.length := by
    rw [e2, List.count_append, recT_count, endT_count h60]
    omega
  have ed : 0 < (decS m.found.length).length := by
    rw [decS]
    split <;> simp
  have en : 6 + (textF m.found).length + 2 ≤ (endT m).length := by
    unfold endT
    simp
    omega
  have g4 := lines_ok (reportT ⟨m.records, [], m.found⟩) (by omega)
  have es : ∀ k, k ≤ (endT m).length → (reportT m).drop ((reportT m).length - k) = (reportT ⟨m.records, [], m.found⟩).drop ((reportT ⟨m.records, [], m.found⟩).length - k) := by
    intro k hk
    have l1 : (recT m ++ listT m.list ++ endT m).length = (recT m ++ listT m.list).length + (endT m).length := List.length_append
    have l2 : (recT m ++ endT m).length = (recT m).length + (endT m).length := List.length_append
    rw [e1, e2, l1, l2]
    rw [show (recT m ++ listT m.list).length + (endT m).length - k = (recT m ++ listT m.list).length + ((endT m).length - k) from by omega, show (recT m).length + (endT m).length - k = (recT m).length + ((endT m).length - k) from by omega]
    rw [drop_app, drop_app]
  have hes := es _ en
  have hl1 : (endT m).length ≤ (reportT m).length := by rw [e1, List.length_append]; omega
  have hl2 : (endT m).length ≤ (reportT ⟨m.records, [], m.found⟩).length := by rw [e2, List.length_append]; omega
  generalize reportT m = R at *
  generalize reportT ⟨m.records, [], m.found⟩ = R2 at *
  generalize textF m.found = X at *
  simp
  refine goCall_gen [] [] [] [] none g3 (by simp) ?_
  simp
  refine goCall_eq c3 (by simp) ?_
  simp
  refine ⟨by omega, by omega, ?_⟩
  refine goDCall_eq g4 (by simp) (by simp) ?_
  simp [ec]
  refine ⟨by omega, by omega, by omega, by omega, by omega, Ends.mk [] [] ?_⟩
  rw [show ((R.length : Int) - (6 + (X.length : Int) + 2)).toNat = R.length - (6 + X.length + 2) from by omega, show ((R2.length : Int) - (6 + (X.length : Int) + 2)).toNat = R2.length - (6 + X.length + 2) from by omega, hes]
  simp
end
end Go.Proofs.YtnhhcfbigjpfeaaGreatDoor

namespace Go.Proofs.YtnhhcfbigjpfeaaGreatDoor.fnReportFound
open Go.ChangeShapes Go.WideShapes Go.ChangeAt Go.RowKit
set_option linter.all false

theorem table {W : World} (h : laidMetH Tryz.prog Rows.fnReportFoundRow.laid W) : Lib.TabIs Tryz.prog W "internal/strconv.uint64pow10" .u64 Lib.pow10Tab := pow10_of h

set_option maxRecDepth 100000 in
theorem contract (H : Type) (enc : TypeId × Value → H) (W : World) (base : Nat) (args : Array Value) (ds gs : List (DataW H)) (before : List MemPlace)
    (hval : ∀ (j : Nat) t v, Tryz.f5.params[j]? = some t → args[j]? = some v → Value.okWide Tryz.prog W .any base t v)
    (hW : DataW.Whole enc Tryz.prog Tryz.f5.params.toList Rows.fnReportFoundSpec.vars false W args.toList ds gs before) (hL : laidMetH Tryz.prog Rows.fnReportFoundRow.laid W) (hsh : W.ShapedOpen Tryz.prog) :
    Calls Tryz.prog 5 args W fun e W' => ∃ v, e = .returned v ∧ Rows.fnReportFoundSpec.post enc Tryz.prog Tryz.f5 false true false false W args v W' := by
  have hW' := hW
  obtain ⟨p, q, hA0, hV, rfl, hfz, hnd⟩ := hW
  have hA : DataW.TrodAll enc Tryz.prog W 0 (fun _ => true) true Tryz.f5.params.toList args.toList ds p := hA0
  rw [Tryz.params5] at hA hval
  obtain ⟨v0, d0, rfl, rfl, h0⟩ := trodAll_one hA
  obtain ⟨rfl, rfl⟩ := trodVars_none hV
  clear hA0
  simp only [List.append_nil] at hW'
  obtain ⟨l0, hl0⟩ := open_bytes Tryz.underlying22 Tryz.underlying5 (by kernel_rfl) (hval 0 22 v0 rfl rfl) h0
  refine ((FnReportFound_ok l0).calls_true rfl W [v0] (tabsD (table hL) hsh) (rel_one hl0)).mono fun e W' ⟨he, hb⟩ => ?_
  subst he
  have hlt : ∀ x ∈ p, x.block < W.heap.size := fun x hx => by simpa using hW'.lt x hx
  have hargs := Below.trod laidOut (by kernel_rfl) (of_decide_eq_true (by kernel_rfl)) h0 hb hlt
  exact ⟨_, rfl, ⟨_, _, _, [], _, [], hW', trodAll_mk1 (shut_bool Tryz.underlying4 _), trodAll_mk1 hargs, rfl, hb.frame _, fun h => by cases h⟩⟩

set_option maxRecDepth 100000 in
theorem laid_met (os : Os) : laidMet Tryz.prog Rows.fnReportFoundRow.laid ((laidWorld os).forCall (fun _ _ => 0) ⟨#[], #[.slice none 0 0], []⟩).memory :=
  laidMet_of_run' 8 (by kernel_rfl) (by kernel_rfl)
set_option maxRecDepth 100000 in
theorem reads (os : Os) {H : Type} (enc : TypeId × Value → H) : ∃ places, DataW.whole enc Tryz.prog ((laidWorld os).forCall (fun _ _ => 0) ⟨#[], #[.slice none 0 0], []⟩).memory Tryz.f5.params.toList Rows.fnReportFoundSpec.vars false #[Value.slice none 0 0].toList 8 = some ([.nil], [], places) :=
  ⟨[], by kernel_rfl⟩

set_option maxRecDepth 100000 in
theorem lifted (os : Os) (started : os.Started) (H : Type) (enc : TypeId × Value → H) (F : Stop.Interp) :
    ReturnsInHanded {} Tryz.checked os 5 .any ((OpenSpec.ofChange Rows.fnReportFoundSpec).preRow enc Tryz.prog Tryz.f5 Rows.fnReportFoundRow.domain false Rows.fnReportFoundRow.laid) (((OpenSpec.ofChange Rows.fnReportFoundSpec).at F).post enc Tryz.prog Tryz.f5 false true false false) := by
  obtain ⟨places, hx⟩ := reads os enc
  refine returnsInHanded_of_row (C := Tryz.checked) (s := OpenSpec.ofChange Rows.fnReportFoundSpec) own started (by kernel_rfl) Tryz.func5
    (witness_row_at (enc := enc) (C := Tryz.checked) false (laidWorld os) #[.slice none 0 0] rfl (by kernel_rfl) (by kernel_rfl) (by kernel_rfl)
      (OpenSpec.preRow_of_cond 8 hx (by kernel_rfl) (fun k hk => by cases hk) (by kernel_rfl) (laid_met os))) ?_
  intro W base args ds gs before hval hW _ _ _ hL hsh _
  exact contract H enc W base args ds gs before hval hW hL hsh

set_option maxRecDepth 100000 in
theorem said : Rows.FnReportFoundSaid :=
  OpenClaim.holds_of_cond 5 Tryz.f5 rfl rfl rfl rfl rfl rfl rfl ⟨rfl, rfl, rfl, rfl, rfl⟩ rfl rfl rfl rfl rfl (by kernel_rfl) Tryz.func5 (by kernel_rfl)
    (of_decide_eq_true (by kernel_rfl)) (by unfold Func.isWrapper; first | (rw [if_pos (by decide +kernel)]; kernel_rfl) | (rw [if_neg (by decide +kernel)]; exact ⟨rfl, rfl⟩))
    (fun os started H enc _ F => by rw [OpenClaim.pre_eq_preRow]; exact lifted os started H enc F)

set_option maxRecDepth 100000 in
theorem plain (f : FuncId) (fn : Func) (hf : Tryz.pinned.checked.prog.funcNamed "loop.example/capturemonitor/laws.FnReportFound" = some f) (hfn : Tryz.pinned.checked.prog.funcs[f]? = some fn) :
    false = Tryz.pinned.checked.prog.looks [] ∧ ∀ (j : Nat) t, fn.params[j]? = some t → Tryz.pinned.checked.prog.wantsStandIn t = false := by
  obtain rfl : f = 5 := Option.some.inj ((show Tryz.prog.funcNamed "loop.example/capturemonitor/laws.FnReportFound" = some 5 by kernel_rfl).symm.trans hf) |>.symm
  obtain rfl : fn = Tryz.f5 := (Option.some.inj (Tryz.func5.symm.trans hfn)).symm
  refine ⟨by kernel_rfl, fun j t ht => ?_⟩
  rw [Tryz.params5] at ht
  obtain rfl : t = 22 := by simpa using Array.mem_of_getElem? ht
  exact (show Tryz.prog.wantsStandIn 22 = false by kernel_rfl)

set_option maxRecDepth 100000 in
theorem card : Rows.FnReportFoundCardSaid :=
  Claim7.holds_tied_plain_at .later [] _ _ _ _ said (fun _ h => by cases h) (by kernel_rfl) (fun _ h => by cases h) fnReportFound_row_tie rfl ⟨rfl, rfl⟩ (by kernel_rfl) rfl plain (by kernel_rfl)
end Go.Proofs.YtnhhcfbigjpfeaaGreatDoor.fnReportFound
