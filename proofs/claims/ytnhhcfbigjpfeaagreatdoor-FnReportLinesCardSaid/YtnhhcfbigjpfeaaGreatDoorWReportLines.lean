/-
  The law 'FnReportLines' is proved: it returns true whatever the input, and the input reads as it did. What the listed variables of the library hold is tied to the program's text by the given card.
-/
import Derived.Test.YtnhhcfbigjpfeaaGreatDoorQ30
import Derived.Test.YtnhhcfbigjpfeaaGreatDoorCards
import Derived.Test.YtnhhcfbigjpfeaaGreatDoorTie
import Derived.Test.YtnhhcfbigjpfeaaGreatDoorQ31
namespace Go.Proofs.YtnhhcfbigjpfeaaGreatDoor
set_option linter.all false
section
set_option maxRecDepth 100000
def ac_laws_FnReportLines : AF := ⟨[0, 2, 3, 4, 5, 6, 7, 10, 23, 39], [.t 2],
  .seq (.region [⟨(.g 2), .mv (.c (.bool false)), none⟩])
  (.seq (.seq (.region [⟨(.l 8), .mv (.g 0), none⟩, ⟨(.l 9), .len (.l 8), none⟩, ⟨(.g 10), .bin .gtr (.l 9) (.c (.int .i64 1048576)), none⟩])
  (.cond (.g 10) (.seq (.region [⟨(.g 2), .mv (.c (.bool true)), none⟩])
   (.ret))
  (.skip)))
  (.seq (.region [⟨(.l 11), .mv (.g 0), none⟩, ⟨(.l 12), .call fn_spec_DrawReportText [(.l 11)], none⟩, ⟨(.g 3), .alloc [(.int .i64 0), .nils, .nils], none⟩, ⟨.no, .store 3 (.g 3) (.l 12), none⟩])
  (.seq (.region [⟨(.l 13), .load true 3 (.g 3), none⟩, ⟨(.l 14), .call fn_impl_ReportText [(.l 13)], none⟩, ⟨(.g 4), .mv (.l 14), none⟩])
  (.seq (.region [⟨(.l 15), .load true 3 (.g 3), none⟩, ⟨(.l 16), .call fn_spec_ReportText [(.l 15)], none⟩, ⟨(.g 5), .mv (.l 16), none⟩])
  (.seq (.seq (.region [⟨(.l 17), .mv (.g 4), none⟩, ⟨(.l 18), .mv (.g 5), none⟩, ⟨(.l 19), .bin .neq (.l 17) (.l 18), none⟩, ⟨(.l 20), .mv (.l 19), none⟩, ⟨(.l 21), .mv (.g 4), (some ((.l 20), false))⟩, ⟨(.l 22), .bin .eql (.l 21) (.c (.str [])), (some ((.l 20), false))⟩, ⟨(.g 23), .pick (.l 20) (.c (.bool true)) (.l 22), none⟩])
  (.cond (.g 23) (.seq (.region [⟨(.l 24), .mv (.g 4), none⟩, ⟨(.l 25), .mv (.g 5), none⟩, ⟨(.l 26), .bin .eql (.l 24) (.l 25), none⟩, ⟨(.g 2), .mv (.l 26), none⟩])
   (.ret))
  (.skip)))
  (.seq (.region [⟨(.l 27), .faddr 1 (.g 3), none⟩, ⟨(.l 28), .load false 1 (.l 27), none⟩, ⟨(.l 29), .len (.l 28), none⟩, ⟨(.l 30), .bin .add (.c (.int .i64 2)) (.l 29), none⟩, ⟨(.l 31), .faddr 2 (.g 3), none⟩, ⟨(.l 32), .load false 1 (.l 31), none⟩, ⟨(.l 33), .len (.l 32), none⟩, ⟨(.l 34), .bin .add (.l 30) (.l 33), none⟩, ⟨(.g 6), .mv (.l 34), none⟩])
  (.seq (.seq (.region [⟨(.g 7), .mv (.c (.int .i64 0)), none⟩])
  (.block 0 (.loop (.seq (.seq (.region [⟨(.l 35), .mv (.g 7), none⟩, ⟨(.l 36), .faddr 1 (.g 3), none⟩, ⟨(.l 37), .load false 1 (.l 36), none⟩, ⟨(.l 38), .len (.l 37), none⟩, ⟨(.g 39), .bin .lss (.l 35) (.l 38), none⟩])
    (.cond (.g 39) (.skip)
    (.exit 0)))
    (.seq (.block 1 (.drawn [⟨(.l 42), .mv (.g 6), none⟩, ⟨(.l 43), .faddr 1 (.g 3), none⟩, ⟨(.l 44), .load false 1 (.l 43), none⟩, ⟨(.l 45), .mv (.g 7), none⟩, ⟨(.l 46), .elS 14 (.l 44) (.l 45), none⟩, ⟨(.l 47), .faddr 4 (.l 46), none⟩, ⟨(.l 48), .load true 5 (.l 47), none⟩, ⟨(.l 49), .call fn_impl_SideSaid [(.l 48)], none⟩, ⟨(.l 50), .len (.l 49), none⟩, ⟨(.l 51), .bin .add (.l 42) (.l 50), none⟩, ⟨(.l 52), .faddr 1 (.g 3), none⟩, ⟨(.l 53), .load false 1 (.l 52), none⟩, ⟨(.l 54), .mv (.g 7), none⟩, ⟨(.l 55), .elS 14 (.l 53) (.l 54), none⟩, ⟨(.l 56), .faddr 9 (.l 55), none⟩, ⟨(.l 57), .load true 5 (.l 56), none⟩, ⟨(.l 58), .call fn_impl_SideSaid [(.l 57)], none⟩, ⟨(.l 59), .len (.l 58), none⟩] [[], [], [], [], [], [], [], [], [], [], [], [8, 7, 6, 4, 2], [], [8, 7, 6, 4, 2], [], [8, 7, 6, 4, 2], [8], [8]] [⟨(.l 60), .bin .add (.l 51) (.l 59), none⟩, ⟨(.g 6), .mv (.l 60), none⟩]))
    (.region [⟨(.l 40), .mv (.g 7), none⟩, ⟨(.l 41), .bin .add (.l 40) (.c (.int .i64 1)), none⟩, ⟨(.g 7), .mv (.l 41), none⟩]))))))
  (.seq (.region [⟨(.l 61), .mv (.g 4), none⟩, ⟨(.l 62), .call fn_laws_lines [(.l 61)], none⟩, ⟨(.l 63), .mv (.g 6), none⟩, ⟨(.l 64), .bin .eql (.l 62) (.l 63), none⟩, ⟨(.g 2), .mv (.l 64), none⟩])
  (.ret)))))))))⟩
theorem ln_laws_FnReportLines : Linked Tryz.prog fn_laws_FnReportLines ac_laws_FnReportLines := ⟨Tryz.f6, _, Tryz.func6, rfl, by kernel_rfl, by kernel_rfl, by kernel_rfl, by kernel_rfl⟩
end
end Go.Proofs.YtnhhcfbigjpfeaaGreatDoor

namespace Go.Proofs.YtnhhcfbigjpfeaaGreatDoor
set_option linter.all false
section
set_option maxRecDepth 200000
set_option maxHeartbeats 8000000
attribute [-simp] List.getD_eq_getElem?_getD

theorem FnReportLines_ok (code : List UInt8) : Fn Tryz.prog fn_laws_FnReportLines [bsl code] [] (.bool true) [] := by
  obtain ⟨m, hm, f1⟩ := DrawReportText_ok code
  have g1 := impl_ReportText_ok m hm.bd
  have g2 := spec_ReportText_ok m hm.bd
  have hlen := reportT_len hm.bd
  have hcr : m.ok = true → (reportT m).count 10 = 2 + m.list.length + m.found.length + saidL m.list := by
    intro hok
    have mo := mon_iff.1 hok
    have hrec := mo.recs
    unfold reportT
    rw [if_pos hok, List.count_append, List.count_append, recT_count, listT_count (fun x hx => (mo.each x hx).1), endT_count (fsOk_60 (by omega) mo.found)]
    omega
  simp only [mon_v] at f1 g1 g2
  refine Fn.of_go ln_laws_FnReportLines rfl ?_
  simp [ac_laws_FnReportLines, bsl]
  refine goTest_dec (fun h0 => ?_) (fun h0 => ?_)
  · simp
    exact Ends.mk [] [] (by simp)
  simp
  refine goCall_eq f1 (by simp [bsl]) ?_
  simp
  refine goCall_eq g1 (by simp) ?_
  simp
  refine goCall_eq g2 (by simp) ?_
  simp
  refine goTest_dec (fun h1 => ?_) (fun h1 => ?_)
  · simp
    exact Ends.mk [] [] (by simp)
  have hok : m.ok = true := by
    cases h : m.ok
    · exact absurd (by unfold reportT; rw [h]; rfl) h1
    · rfl
  have mo := mon_iff.1 hok
  have hl3 := mo.len
  have hff := hm.found
  have hc := hcr hok
  have g3 := lines_ok (reportT m) (by omega)
  simp
  refine ⟨by omega, by omega, ?_⟩
  generalize reportT m = R at *
  refine go_loop (fun i : Nat => { env := [(3, .ptr 3 0), (4, .str R), (6, .int .i64 (2 + m.list.length + m.found.length + saidL (m.list.take i) : Nat)), (7, .int .i64 (i : Nat))], loc := [], box := [(3, m.cells)], stat := [] }) (fun i => i ≤ m.list.length) (fun i => m.list.length - i) 0 (by omega)
    (Weak.of [] [(3, 3)] (by simp [Monitor.cells, fsl, saidL])) ?_
  intro i hi
  simp [Monitor.cells, fsl]
  refine goTest_dec (fun hlt => ?_) (fun hge => ?_)
  · have hx := (mo.each _ (nth_mem hlt)).1
    obtain ⟨q1, q2, q3, q4, q5⟩ := assoc_facts hx
    have ht := saidL_snoc hlt
    have hN : (saidF (nth m.list i).a.sent []).length ≤ 12 ∧ (saidF (nth m.list i).b.sent []).length ≤ 12 := by
      have a1 := (side_msgs q4 (nth m.list i).a.sent.length).2
      have a2 := (side_msgs q5 (nth m.list i).b.sent.length).2
      rw [List.take_length] at a1 a2
      exact ⟨a1, a2⟩
    have hL := saidL_le (l := m.list.take i) (fun x hx => (mo.each x (List.mem_of_mem_take hx)).1)
    have hL2 : (m.list.take i).length ≤ 3 := by simp; omega
    have e1 : saidS (nth m.list i).a = saidF (nth m.list i).a.sent [] := by unfold saidS; rw [if_pos q4]
    have e2 : saidS (nth m.list i).b = saidF (nth m.list i).b.sent [] := by unfold saidS; rw [if_pos q5]
    have f3 := SideSaid_ok (nth m.list i).a (Side.ok_bd q4) q4
    have f4 := SideSaid_ok (nth m.list i).b (Side.ok_bd q5) q5
    rw [e1] at f3
    rw [e2] at f4
    have en : saidN (nth m.list i) = (saidF (nth m.list i).a.sent []).length + (saidF (nth m.list i).b.sent []).length := rfl
    rw [en] at ht
    generalize saidL (m.list.take i) = T at *
    simp only [side_v] at f3 f4
    simp [hlt, assoc_v]
    refine goDCall_eq f3 (by simp) (by simp) ?_
    simp [hlt, assoc_v]
    generalize nth m.list i = x at *
    refine ⟨by omega, goDCall_eq f4 (by simp) (by simp) ?_⟩
    simp
    exact ⟨by omega, by omega, .mk (i + 1) hlt (by omega) (Weak.of [] [(3, 3)] (by simp [Monitor.cells, fsl, ht]; omega))⟩
  · obtain rfl : i = m.list.length := by omega
    simp
    refine goCall_eq g3 (by simp) ?_
    simp
    exact Ends.mk [] [] (by simp [hc])
end
end Go.Proofs.YtnhhcfbigjpfeaaGreatDoor

namespace Go.Proofs.YtnhhcfbigjpfeaaGreatDoor.fnReportLines
open Go.ChangeShapes Go.WideShapes Go.ChangeAt Go.RowKit
set_option linter.all false

theorem table {W : World} (h : laidMetH Tryz.prog Rows.fnReportLinesRow.laid W) : Lib.TabIs Tryz.prog W "internal/strconv.uint64pow10" .u64 Lib.pow10Tab := pow10_of h

set_option maxRecDepth 100000 in
theorem contract (H : Type) (enc : TypeId × Value → H) (W : World) (base : Nat) (args : Array Value) (ds gs : List (DataW H)) (before : List MemPlace)
    (hval : ∀ (j : Nat) t v, Tryz.f6.params[j]? = some t → args[j]? = some v → Value.okWide Tryz.prog W .any base t v)
    (hW : DataW.Whole enc Tryz.prog Tryz.f6.params.toList Rows.fnReportLinesSpec.vars false W args.toList ds gs before) (hL : laidMetH Tryz.prog Rows.fnReportLinesRow.laid W) (hsh : W.ShapedOpen Tryz.prog) :
    Calls Tryz.prog 6 args W fun e W' => ∃ v, e = .returned v ∧ Rows.fnReportLinesSpec.post enc Tryz.prog Tryz.f6 false true false false W args v W' := by
  have hW' := hW
  obtain ⟨p, q, hA0, hV, rfl, hfz, hnd⟩ := hW
  have hA : DataW.TrodAll enc Tryz.prog W 0 (fun _ => true) true Tryz.f6.params.toList args.toList ds p := hA0
  rw [Tryz.params6] at hA hval
  obtain ⟨v0, d0, rfl, rfl, h0⟩ := trodAll_one hA
  obtain ⟨rfl, rfl⟩ := trodVars_none hV
  clear hA0
  simp only [List.append_nil] at hW'
  obtain ⟨l0, hl0⟩ := open_bytes Tryz.underlying22 Tryz.underlying5 (by kernel_rfl) (hval 0 22 v0 rfl rfl) h0
  refine ((FnReportLines_ok l0).calls_true rfl W [v0] (tabsD (table hL) hsh) (rel_one hl0)).mono fun e W' ⟨he, hb⟩ => ?_
  subst he
  have hlt : ∀ x ∈ p, x.block < W.heap.size := fun x hx => by simpa using hW'.lt x hx
  have hargs := Below.trod laidOut (by kernel_rfl) (of_decide_eq_true (by kernel_rfl)) h0 hb hlt
  exact ⟨_, rfl, ⟨_, _, _, [], _, [], hW', trodAll_mk1 (shut_bool Tryz.underlying4 _), trodAll_mk1 hargs, rfl, hb.frame _, fun h => by cases h⟩⟩

set_option maxRecDepth 100000 in
theorem laid_met (os : Os) : laidMet Tryz.prog Rows.fnReportLinesRow.laid ((laidWorld os).forCall (fun _ _ => 0) ⟨#[], #[.slice none 0 0], []⟩).memory :=
  laidMet_of_run' 8 (by kernel_rfl) (by kernel_rfl)
set_option maxRecDepth 100000 in
theorem reads (os : Os) {H : Type} (enc : TypeId × Value → H) : ∃ places, DataW.whole enc Tryz.prog ((laidWorld os).forCall (fun _ _ => 0) ⟨#[], #[.slice none 0 0], []⟩).memory Tryz.f6.params.toList Rows.fnReportLinesSpec.vars false #[Value.slice none 0 0].toList 8 = some ([.nil], [], places) :=
  ⟨[], by kernel_rfl⟩

set_option maxRecDepth 100000 in
theorem lifted (os : Os) (started : os.Started) (H : Type) (enc : TypeId × Value → H) (F : Stop.Interp) :
    ReturnsInHanded {} Tryz.checked os 6 .any ((OpenSpec.ofChange Rows.fnReportLinesSpec).preRow enc Tryz.prog Tryz.f6 Rows.fnReportLinesRow.domain false Rows.fnReportLinesRow.laid) (((OpenSpec.ofChange Rows.fnReportLinesSpec).at F).post enc Tryz.prog Tryz.f6 false true false false) := by
  obtain ⟨places, hx⟩ := reads os enc
  refine returnsInHanded_of_row (C := Tryz.checked) (s := OpenSpec.ofChange Rows.fnReportLinesSpec) own started (by kernel_rfl) Tryz.func6
    (witness_row_at (enc := enc) (C := Tryz.checked) false (laidWorld os) #[.slice none 0 0] rfl (by kernel_rfl) (by kernel_rfl) (by kernel_rfl)
      (OpenSpec.preRow_of_cond 8 hx (by kernel_rfl) (fun k hk => by cases hk) (by kernel_rfl) (laid_met os))) ?_
  intro W base args ds gs before hval hW _ _ _ hL hsh _
  exact contract H enc W base args ds gs before hval hW hL hsh

set_option maxRecDepth 100000 in
theorem said : Rows.FnReportLinesSaid :=
  OpenClaim.holds_of_cond 6 Tryz.f6 rfl rfl rfl rfl rfl rfl rfl ⟨rfl, rfl, rfl, rfl, rfl⟩ rfl rfl rfl rfl rfl (by kernel_rfl) Tryz.func6 (by kernel_rfl)
    (of_decide_eq_true (by kernel_rfl)) (by unfold Func.isWrapper; first | (rw [if_pos (by decide +kernel)]; kernel_rfl) | (rw [if_neg (by decide +kernel)]; exact ⟨rfl, rfl⟩))
    (fun os started H enc _ F => by rw [OpenClaim.pre_eq_preRow]; exact lifted os started H enc F)

set_option maxRecDepth 100000 in
theorem plain (f : FuncId) (fn : Func) (hf : Tryz.pinned.checked.prog.funcNamed "loop.example/capturemonitor/laws.FnReportLines" = some f) (hfn : Tryz.pinned.checked.prog.funcs[f]? = some fn) :
    false = Tryz.pinned.checked.prog.looks [] ∧ ∀ (j : Nat) t, fn.params[j]? = some t → Tryz.pinned.checked.prog.wantsStandIn t = false := by
  obtain rfl : f = 6 := Option.some.inj ((show Tryz.prog.funcNamed "loop.example/capturemonitor/laws.FnReportLines" = some 6 by kernel_rfl).symm.trans hf) |>.symm
  obtain rfl : fn = Tryz.f6 := (Option.some.inj (Tryz.func6.symm.trans hfn)).symm
  refine ⟨by kernel_rfl, fun j t ht => ?_⟩
  rw [Tryz.params6] at ht
  obtain rfl : t = 22 := by simpa using Array.mem_of_getElem? ht
  exact (show Tryz.prog.wantsStandIn 22 = false by kernel_rfl)

set_option maxRecDepth 100000 in
theorem card : Rows.FnReportLinesCardSaid :=
  Claim7.holds_tied_plain_at .later [] _ _ _ _ said (fun _ h => by cases h) (by kernel_rfl) (fun _ h => by cases h) fnReportLines_row_tie rfl ⟨rfl, rfl⟩ (by kernel_rfl) rfl plain (by kernel_rfl)
end Go.Proofs.YtnhhcfbigjpfeaaGreatDoor.fnReportLines
