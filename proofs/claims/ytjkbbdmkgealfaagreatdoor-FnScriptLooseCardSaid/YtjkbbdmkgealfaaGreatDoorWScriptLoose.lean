/-
  The law 'FnScriptLoose' is proved: it returns true whatever the input, and the input reads as it did. What the listed variables of the library hold is tied to the program's text by the given card.
-/
import Derived.Test.YtjkbbdmkgealfaaGreatDoorQ35
import Derived.Test.YtjkbbdmkgealfaaGreatDoorCards
import Derived.Test.YtjkbbdmkgealfaaGreatDoorTie
namespace Go.Proofs.YtjkbbdmkgealfaaGreatDoor
set_option linter.all false
section
set_option maxRecDepth 100000
def ac_laws_FnScriptLoose : AF := ⟨[0, 2, 3, 4, 5, 8, 17], [.t 2],
 .seq (.region [qG 2 (.mv qo)])
 (.seq (.seq (.region [qa 6 0, qL 7 (.len (.l 6)), qG 8 (.bin .gtr (.l 7) (qn 1048576))])
 (.cond (.g 8) (.seq (.region [qG 2 (.mv qt)])
 (.ret))
 (.skip)))
 (.seq (.region [qa 9 0, qL 10 (.call fn_spec_DrawExecute [.l 9]), qb 3 10])
 (.seq (.region [qa 11 3, qL 12 (.call fn_impl_Execute [.l 11]), qb 4 12])
 (.seq (.region [qa 13 3, qL 14 (.call fn_spec_Execute [.l 13]), qb 5 14])
 (.seq (.seq (.region [qa 15 4, qa 16 5, qG 17 (.bin .neq (.l 15) (.l 16))])
 (.cond (.g 17) (.seq (.region [qa 18 4, qa 19 5, qL 20 (.bin .eql (.l 18) (.l 19)), qb 2 20])
 (.ret))
 (.skip)))
 (.seq (.region [qL 21 (.call fn_impl_Execute [qs [97, 97, 32, 49, 32, 104, 105, 10, 97, 32, 49, 32, 104, 111, 10, 116, 97, 108, 107, 10, 116, 119, 105, 99, 101, 32, 52, 10, 114, 101, 112, 111, 114, 116, 10]]), qL 22 (.bin .eql (.l 21) (qs [111, 107, 10, 111, 107, 10, 114, 101, 99, 111, 114, 100, 115, 32, 49, 49, 10, 111, 107, 10, 114, 101, 99, 111, 114, 100, 115, 32, 49, 50, 10, 102, 114, 111, 109, 32, 55, 32, 116, 111, 32, 57, 32, 111, 118, 101, 114, 10, 97, 32, 49, 32, 45, 32, 54, 56, 54, 57, 32, 111, 107, 10, 97, 32, 49, 32, 48, 32, 54, 56, 54, 102, 32, 111, 107, 10, 102, 111, 117, 110, 100, 32, 48, 10, 114, 101, 99, 111, 114, 100, 115, 32, 49, 50, 10])), qb 2 22])
 (.ret)))))))⟩
theorem ln_laws_FnScriptLoose : Linked Tryz.prog fn_laws_FnScriptLoose ac_laws_FnScriptLoose := ⟨Tryz.f9, _, Tryz.func9, rfl, by kernel_rfl, by kernel_rfl, by kernel_rfl, by kernel_rfl⟩
end
end Go.Proofs.YtjkbbdmkgealfaaGreatDoor

namespace Go.Proofs.YtjkbbdmkgealfaaGreatDoor
set_option linter.all false
section
set_option maxRecDepth 200000
set_option maxHeartbeats 8000000
attribute [-simp] List.getD_eq_getElem?_getD

theorem FnScriptLoose_ok (code : List UInt8) : Fn Tryz.prog fn_laws_FnScriptLoose [bsl code] [] (.bool true) [] := by
  obtain ⟨t, ht, f1⟩ := DrawExecute_ok code
  have g1 := impl_Execute_ok t
  have g2 := spec_Execute_ok t
  have g3 := impl_Execute_ok [97, 97, 32, 49, 32, 104, 105, 10, 97, 32, 49, 32, 104, 111, 10, 116, 97, 108, 107, 10, 116, 119, 105, 99, 101, 32, 52, 10, 114, 101, 112, 111, 114, 116, 10]
  rw [run_Loose] at g3
  simp only [bsl] at f1
  refine Fn.of_go ln_laws_FnScriptLoose rfl ?_
  simp [ac_laws_FnScriptLoose, bsl]
  refine goTest_dec (fun h0 => ?_) (fun h0 => ?_)
  · simp
    exact Ends.mk [] [] (by simp)
  simp
  refine goCall_eq f1 (by simp) ?_
  simp
  refine goCall_eq g1 (by simp) ?_
  simp
  refine goCall_eq g2 (by simp) ?_
  generalize executeD t = X at *
  simp
  refine goCall_eq g3 (by simp) ?_
  simp
  exact Ends.mk [] [] (by simp)
end
end Go.Proofs.YtjkbbdmkgealfaaGreatDoor

namespace Go.Proofs.YtjkbbdmkgealfaaGreatDoor.fnScriptLoose
open Go.ChangeShapes Go.WideShapes Go.ChangeAt Go.RowKit
set_option linter.all false

theorem table {W : World} (h : laidMetH Tryz.prog Rows.fnScriptLooseRow.laid W) : Lib.TabIs Tryz.prog W "internal/strconv.uint64pow10" .u64 Lib.pow10Tab := pow10_of h

set_option maxRecDepth 100000 in
theorem contract (H : Type) (enc : TypeId × Value → H) (W : World) (base : Nat) (args : Array Value) (ds gs : List (DataW H)) (before : List MemPlace)
    (hval : ∀ (j : Nat) t v, Tryz.f9.params[j]? = some t → args[j]? = some v → Value.okWide Tryz.prog W .any base t v)
    (hW : DataW.Whole enc Tryz.prog Tryz.f9.params.toList Rows.fnScriptLooseSpec.vars false W args.toList ds gs before) (hL : laidMetH Tryz.prog Rows.fnScriptLooseRow.laid W) (hsh : W.ShapedOpen Tryz.prog) :
    Calls Tryz.prog 9 args W fun e W' => ∃ v, e = .returned v ∧ Rows.fnScriptLooseSpec.post enc Tryz.prog Tryz.f9 false true false false W args v W' := by
  have hW' := hW
  obtain ⟨p, q, hA0, hV, rfl, hfz, hnd⟩ := hW
  have hA : DataW.TrodAll enc Tryz.prog W 0 (fun _ => true) true Tryz.f9.params.toList args.toList ds p := hA0
  rw [Tryz.params9] at hA hval
  obtain ⟨v0, d0, rfl, rfl, h0⟩ := trodAll_one hA
  obtain ⟨rfl, rfl⟩ := trodVars_none hV
  clear hA0
  simp only [List.append_nil] at hW'
  obtain ⟨l0, hl0⟩ := open_bytes Tryz.underlying22 Tryz.underlying5 (by kernel_rfl) (hval 0 22 v0 rfl rfl) h0
  refine ((FnScriptLoose_ok l0).calls_true rfl W [v0] (tabsD (table hL) hsh) (rel_one hl0)).mono fun e W' ⟨he, hb⟩ => ?_
  subst he
  have hlt : ∀ x ∈ p, x.block < W.heap.size := fun x hx => by simpa using hW'.lt x hx
  have hargs := Below.trod laidOut (by kernel_rfl) (of_decide_eq_true (by kernel_rfl)) h0 hb hlt
  exact ⟨_, rfl, ⟨_, _, _, [], _, [], hW', trodAll_mk1 (shut_bool Tryz.underlying4 _), trodAll_mk1 hargs, rfl, hb.frame _, fun h => by cases h⟩⟩

set_option maxRecDepth 100000 in
theorem laid_met (os : Os) : laidMet Tryz.prog Rows.fnScriptLooseRow.laid ((laidWorld os).forCall (fun _ _ => 0) ⟨#[], #[.slice none 0 0], []⟩).memory :=
  laidMet_of_run' 8 (by kernel_rfl) (by kernel_rfl)
set_option maxRecDepth 100000 in
theorem reads (os : Os) {H : Type} (enc : TypeId × Value → H) : ∃ places, DataW.whole enc Tryz.prog ((laidWorld os).forCall (fun _ _ => 0) ⟨#[], #[.slice none 0 0], []⟩).memory Tryz.f9.params.toList Rows.fnScriptLooseSpec.vars false #[Value.slice none 0 0].toList 8 = some ([.nil], [], places) :=
  ⟨[], by kernel_rfl⟩

set_option maxRecDepth 100000 in
theorem lifted (os : Os) (started : os.Started) (H : Type) (enc : TypeId × Value → H) (F : Stop.Interp) :
    ReturnsInHanded {} Tryz.checked os 9 .any ((OpenSpec.ofChange Rows.fnScriptLooseSpec).preRow enc Tryz.prog Tryz.f9 Rows.fnScriptLooseRow.domain false Rows.fnScriptLooseRow.laid) (((OpenSpec.ofChange Rows.fnScriptLooseSpec).at F).post enc Tryz.prog Tryz.f9 false true false false) := by
  obtain ⟨places, hx⟩ := reads os enc
  refine returnsInHanded_of_row (C := Tryz.checked) (s := OpenSpec.ofChange Rows.fnScriptLooseSpec) own started (by kernel_rfl) Tryz.func9
    (witness_row_at (enc := enc) (C := Tryz.checked) false (laidWorld os) #[.slice none 0 0] rfl (by kernel_rfl) (by kernel_rfl) (by kernel_rfl)
      (OpenSpec.preRow_of_cond 8 hx (by kernel_rfl) (fun k hk => by cases hk) (by kernel_rfl) (laid_met os))) ?_
  intro W base args ds gs before hval hW _ _ _ hL hsh _
  exact contract H enc W base args ds gs before hval hW hL hsh

set_option maxRecDepth 100000 in
theorem said : Rows.FnScriptLooseSaid :=
  OpenClaim.holds_of_cond 9 Tryz.f9 rfl rfl rfl rfl rfl rfl rfl ⟨rfl, rfl, rfl, rfl, rfl⟩ rfl rfl rfl rfl rfl (by kernel_rfl) Tryz.func9 (by kernel_rfl)
    (of_decide_eq_true (by kernel_rfl)) (by unfold Func.isWrapper; first | (rw [if_pos (by decide +kernel)]; kernel_rfl) | (rw [if_neg (by decide +kernel)]; exact ⟨rfl, rfl⟩))
    (fun os started H enc _ F => by rw [OpenClaim.pre_eq_preRow]; exact lifted os started H enc F)

set_option maxRecDepth 100000 in
theorem plain (f : FuncId) (fn : Func) (hf : Tryz.pinned.checked.prog.funcNamed "loop.example/capturemonitor/laws.FnScriptLoose" = some f) (hfn : Tryz.pinned.checked.prog.funcs[f]? = some fn) :
    false = Tryz.pinned.checked.prog.looks [] ∧ ∀ (j : Nat) t, fn.params[j]? = some t → Tryz.pinned.checked.prog.wantsStandIn t = false := by
  obtain rfl : f = 9 := Option.some.inj ((show Tryz.prog.funcNamed "loop.example/capturemonitor/laws.FnScriptLoose" = some 9 by kernel_rfl).symm.trans hf) |>.symm
  obtain rfl : fn = Tryz.f9 := (Option.some.inj (Tryz.func9.symm.trans hfn)).symm
  refine ⟨by kernel_rfl, fun j t ht => ?_⟩
  rw [Tryz.params9] at ht
  obtain rfl : t = 22 := by simpa using Array.mem_of_getElem? ht
  exact (show Tryz.prog.wantsStandIn 22 = false by kernel_rfl)

set_option maxRecDepth 100000 in
theorem card : Rows.FnScriptLooseCardSaid :=
  Claim7.holds_tied_plain_at .later [] _ _ _ _ said (fun _ h => by cases h) (by kernel_rfl) (fun _ h => by cases h) fnScriptLoose_row_tie rfl ⟨rfl, rfl⟩ (by kernel_rfl) rfl plain (by kernel_rfl)
end Go.Proofs.YtjkbbdmkgealfaaGreatDoor.fnScriptLoose
