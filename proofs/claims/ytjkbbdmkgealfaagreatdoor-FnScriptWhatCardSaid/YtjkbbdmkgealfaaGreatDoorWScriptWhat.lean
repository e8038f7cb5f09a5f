/-
  The law 'FnScriptWhat' is proved: it returns true whatever the input, and the input reads as it did. What the listed variables of the library hold is tied to the program's text by the given card.
-/
import Derived.Test.YtjkbbdmkgealfaaGreatDoorQ35
import Derived.Test.YtjkbbdmkgealfaaGreatDoorCards
import Derived.Test.YtjkbbdmkgealfaaGreatDoorTie
namespace Go.Proofs.YtjkbbdmkgealfaaGreatDoor
set_option linter.all false
section
set_option maxRecDepth 100000
def ac_laws_FnScriptWhat : AF := ⟨[0, 2, 3, 4, 5, 6, 7, 8, 11, 26], [.t 2],
 .seq (.region [qG 2 (.mv qo)])
 (.seq (.seq (.region [qa 9 0, qL 10 (.len (.l 9)), qG 11 (.bin .gtr (.l 10) (qn 1048576))])
 (.cond (.g 11) (.seq (.region [qG 2 (.mv qt)])
 (.ret))
 (.skip)))
 (.seq (.region [qa 12 0, qL 13 (.call fn_spec_DrawExecute [.l 12]), qb 3 13])
 (.seq (.region [qa 14 3, qL 15 (.call fn_impl_Execute [.l 14]), qb 4 15])
 (.seq (.region [qa 16 3, qL 17 (.call fn_spec_Execute [.l 16]), qb 5 17])
 (.seq (.seq (.region [qa 18 4, qa 19 5, qL 20 (.bin .neq (.l 18) (.l 19)), qc 21 20, qF 22 (.mv (.g 3)) 21, qF 23 (.lenStr (.l 22)) 21, qF 24 (.bin .add (.l 23) (qn 4)) 21, qF 25 (.bin .gtr (.l 24) (qn 600)) 21, qG 26 (.pick (.l 21) qt (.l 25))])
 (.cond (.g 26) (.seq (.region [qa 27 4, qa 28 5, qL 29 (.bin .eql (.l 27) (.l 28)), qb 2 29])
 (.ret))
 (.skip)))
 (.seq (.region [qa 30 3, qL 31 (.call fn_laws_completeLines [.l 30]), qb 6 31])
 (.seq (.region [qa 32 6, qL 33 (.call fn_impl_Execute [.l 32]), qb 7 33])
 (.seq (.region [qa 34 7, qL 35 (.call fn_laws_lastLine [.l 34]), qb 8 35])
 (.seq (.drawn [qa 36 6, qL 37 (.bin .add (.l 36) (qs [122, 122, 122, 10])), qL 38 (.call fn_impl_Execute [.l 37]), qa 39 7, qa 40 7, qL 41 (.lenStr (.l 40)), qa 42 8, qL 43 (.lenStr (.l 42)), qL 44 (.bin .sub (.l 41) (.l 43)), qL 45 (.cutStr (.l 39) none (some (.l 44))), qL 46 (.bin .add (.l 45) (qs [119, 104, 97, 116, 10])), qa 47 8, qL 48 (.bin .add (.l 46) (.l 47))] [[], [], [], [], [], [], [], [], [], [], [], [], []] [qL 49 (.bin .eql (.l 38) (.l 48)), qb 2 49])
 (.ret))))))))))⟩
theorem ln_laws_FnScriptWhat : Linked Tryz.prog fn_laws_FnScriptWhat ac_laws_FnScriptWhat := ⟨Tryz.f5, _, Tryz.func5, rfl, by kernel_rfl, by kernel_rfl, by kernel_rfl, by kernel_rfl⟩
end
end Go.Proofs.YtjkbbdmkgealfaaGreatDoor

namespace Go.Proofs.YtjkbbdmkgealfaaGreatDoor
set_option linter.all false
section
set_option maxRecDepth 200000
set_option maxHeartbeats 8000000
attribute [-simp] List.getD_eq_getElem?_getD

/-- What a script answers, and what it answers with an unknown command behind it. -/
theorem zzz_lines (t : List UInt8) (h : t.length + 4 ≤ 600) : ∃ c A B : List UInt8, Fn Tryz.prog fn_laws_completeLines [.str t] [] (.str c) [] ∧ executeD c = A ++ B ∧ Fn Tryz.prog fn_laws_lastLine [.str (A ++ B)] [] (.str B) [] ∧ executeD (c ++ [122, 122, 122, 10]) = A ++ [119, 104, 97, 116, 10] ++ B ∧ c.length ≤ 600 ∧ A.length ≤ 1000000000000 ∧ B.length ≤ 1000 := by
  have key : ∀ c : List UInt8, c.length + 4 ≤ 600 → linesD (c ++ [122, 122, 122, 10]) = linesD c ++ [[122, 122, 122]] → ∃ A B : List UInt8, executeD c = A ++ B ∧ Fn Tryz.prog fn_laws_lastLine [.str (A ++ B)] [] (.str B) [] ∧ executeD (c ++ [122, 122, 122, 10]) = A ++ [119, 104, 97, 116, 10] ++ B ∧ A.length ≤ 1000000000000 ∧ B.length ≤ 1000 := by
    intro c hc hz
    obtain ⟨hL1, hL2⟩ := linesD_len (text := c) (by omega)
    obtain ⟨hb, ho⟩ := runD_facts (linesD c) desk0_bd hL2
    have hd := decS_len20 (n := (runD desk0 (linesD c)).1.recs.length) (by have := hb.recs; omega)
    have g := lastLine_ok (runD desk0 (linesD c)).2 (tRecords ++ decS (runD desk0 (linesD c)).1.recs.length) (runD_nl _ _) (count_nono _) (by simp [tRecords]; omega)
    have hw : ∀ s : Desk, lineD s [122, 122, 122] = (s, tWhat) := fun s => rfl
    refine ⟨(runD desk0 (linesD c)).2, countT (runD desk0 (linesD c)).1.recs.length, ?_, ?_, ?_, by omega, ?_⟩
    · unfold executeD
      rw [if_neg (by omega)]
    · unfold countT
      rw [← List.append_assoc]
      exact g
    · unfold executeD
      rw [if_neg (by simp; omega), hz, runD_snoc, hw]
      rfl
    · have := countT_len (runD desk0 (linesD c)).1.recs.length (by have := hb.recs; omega)
      omega
  have hzz : (10 : UInt8) ∉ ([122, 122, 122] : List UInt8) := by decide
  by_cases q : 10 ∈ t
  · obtain ⟨a, b, rfl, hb⟩ := last_nl t q
    have hl : a.length + b.length + 1 + 4 ≤ 600 := by simp at h; omega
    obtain ⟨A, B, h1, h2, h3, h4, h5⟩ := key (a ++ [10]) (by simp; omega) (by
      have e : a ++ [10] ++ [122, 122, 122, 10] = (a ++ [10] ++ [122, 122, 122]) ++ 10 :: [] := by simp
      rw [e, linesD_cut (by simp), linesD_cut (a := a) (b := []) (by simp)]
      have e2 : a ++ [10] ++ [122, 122, 122] = a ++ 10 :: [122, 122, 122] := by simp
      rw [e2, cutAll_mid, cutAll_notin hzz])
    exact ⟨a ++ [10], A, B, completeLines_ok2 a b hb (by omega), h1, h2, h3, by simp; omega, h4, h5⟩
  · obtain ⟨A, B, h1, h2, h3, h4, h5⟩ := key [] (by simp) (by rfl)
    exact ⟨[], A, B, completeLines_ok1 t q (by omega), h1, h2, h3, by simp, h4, h5⟩

theorem FnScriptWhat_ok (code : List UInt8) : Fn Tryz.prog fn_laws_FnScriptWhat [bsl code] [] (.bool true) [] := by
  obtain ⟨t, ht, f1⟩ := DrawExecute_ok code
  have g1 := impl_Execute_ok t
  have g2 := spec_Execute_ok t
  simp only [bsl] at f1
  refine Fn.of_go ln_laws_FnScriptWhat rfl ?_
  simp [ac_laws_FnScriptWhat, bsl]
  refine goTest_dec (fun h0 => ?_) (fun h0 => ?_)
  · simp
    exact Ends.mk [] [] (by simp)
  simp
  refine goCall_eq f1 (by simp) ?_
  simp
  refine goCall_eq g1 (by simp) ?_
  simp
  refine goCall_eq g2 (by simp) ?_
  by_cases h6 : 600 < (t.length : Int) + 4
  · simp [h6]
    exact ⟨by omega, Ends.mk [] [] (by simp)⟩
  obtain ⟨c, A, B, g3, hc, g5, hz, hcl, hA, hB⟩ := zzz_lines t (by omega)
  have g4 := impl_Execute_ok c
  have g6 := impl_Execute_ok (c ++ [122, 122, 122, 10])
  rw [hc] at g4
  rw [hz] at g6
  generalize executeD t = X at *
  simp [h6]
  refine ⟨by omega, ?_⟩
  refine goCall_eq g3 (by simp) ?_
  simp
  refine goCall_eq g4 (by simp) ?_
  simp
  refine goCall_eq g5 (by simp) ?_
  simp
  refine ⟨by omega, ?_⟩
  simp at g6
  refine goDCall_eq g6 (by simp) (by simp) ?_
  simp
  exact ⟨by omega, by omega, by omega, by omega, Ends.mk [] [] (by simp)⟩
end
end Go.Proofs.YtjkbbdmkgealfaaGreatDoor

namespace Go.Proofs.YtjkbbdmkgealfaaGreatDoor.fnScriptWhat
open Go.ChangeShapes Go.WideShapes Go.ChangeAt Go.RowKit
set_option linter.all false

theorem table {W : World} (h : laidMetH Tryz.prog Rows.fnScriptWhatRow.laid W) : Lib.TabIs Tryz.prog W "internal/strconv.uint64pow10" .u64 Lib.pow10Tab := pow10_of h

set_option maxRecDepth 100000 in
theorem contract (H : Type) (enc : TypeId × Value → H) (W : World) (base : Nat) (args : Array Value) (ds gs : List (DataW H)) (before : List MemPlace)
    (hval : ∀ (j : Nat) t v, Tryz.f5.params[j]? = some t → args[j]? = some v → Value.okWide Tryz.prog W .any base t v)
    (hW : DataW.Whole enc Tryz.prog Tryz.f5.params.toList Rows.fnScriptWhatSpec.vars false W args.toList ds gs before) (hL : laidMetH Tryz.prog Rows.fnScriptWhatRow.laid W) (hsh : W.ShapedOpen Tryz.prog) :
    Calls Tryz.prog 5 args W fun e W' => ∃ v, e = .returned v ∧ Rows.fnScriptWhatSpec.post enc Tryz.prog Tryz.f5 false true false false W args v W' := by
  have hW' := hW
  obtain ⟨p, q, hA0, hV, rfl, hfz, hnd⟩ := hW
  have hA : DataW.TrodAll enc Tryz.prog W 0 (fun _ => true) true Tryz.f5.params.toList args.toList ds p := hA0
  rw [Tryz.params5] at hA hval
  obtain ⟨v0, d0, rfl, rfl, h0⟩ := trodAll_one hA
  obtain ⟨rfl, rfl⟩ := trodVars_none hV
  clear hA0
  simp only [List.append_nil] at hW'
  obtain ⟨l0, hl0⟩ := open_bytes Tryz.underlying22 Tryz.underlying5 (by kernel_rfl) (hval 0 22 v0 rfl rfl) h0
  refine ((FnScriptWhat_ok l0).calls_true rfl W [v0] (tabsD (table hL) hsh) (rel_one hl0)).mono fun e W' ⟨he, hb⟩ => ?_
  subst he
  have hlt : ∀ x ∈ p, x.block < W.heap.size := fun x hx => by simpa using hW'.lt x hx
  have hargs := Below.trod laidOut (by kernel_rfl) (of_decide_eq_true (by kernel_rfl)) h0 hb hlt
  exact ⟨_, rfl, ⟨_, _, _, [], _, [], hW', trodAll_mk1 (shut_bool Tryz.underlying4 _), trodAll_mk1 hargs, rfl, hb.frame _, fun h => by cases h⟩⟩

set_option maxRecDepth 100000 in
theorem laid_met (os : Os) : laidMet Tryz.prog Rows.fnScriptWhatRow.laid ((laidWorld os).forCall (fun _ _ => 0) ⟨#[], #[.slice none 0 0], []⟩).memory :=
  laidMet_of_run' 8 (by kernel_rfl) (by kernel_rfl)
set_option maxRecDepth 100000 in
theorem reads (os : Os) {H : Type} (enc : TypeId × Value → H) : ∃ places, DataW.whole enc Tryz.prog ((laidWorld os).forCall (fun _ _ => 0) ⟨#[], #[.slice none 0 0], []⟩).memory Tryz.f5.params.toList Rows.fnScriptWhatSpec.vars false #[Value.slice none 0 0].toList 8 = some ([.nil], [], places) :=
  ⟨[], by kernel_rfl⟩

set_option maxRecDepth 100000 in
theorem lifted (os : Os) (started : os.Started) (H : Type) (enc : TypeId × Value → H) (F : Stop.Interp) :
    ReturnsInHanded {} Tryz.checked os 5 .any ((OpenSpec.ofChange Rows.fnScriptWhatSpec).preRow enc Tryz.prog Tryz.f5 Rows.fnScriptWhatRow.domain false Rows.fnScriptWhatRow.laid) (((OpenSpec.ofChange Rows.fnScriptWhatSpec).at F).post enc Tryz.prog Tryz.f5 false true false false) := by
  obtain ⟨places, hx⟩ := reads os enc
  refine returnsInHanded_of_row (C := Tryz.checked) (s := OpenSpec.ofChange Rows.fnScriptWhatSpec) own started (by kernel_rfl) Tryz.func5
    (witness_row_at (enc := enc) (C := Tryz.checked) false (laidWorld os) #[.slice none 0 0] rfl (by kernel_rfl) (by kernel_rfl) (by kernel_rfl)
      (OpenSpec.preRow_of_cond 8 hx (by kernel_rfl) (fun k hk => by cases hk) (by kernel_rfl) (laid_met os))) ?_
  intro W base args ds gs before hval hW _ _ _ hL hsh _
  exact contract H enc W base args ds gs before hval hW hL hsh

set_option maxRecDepth 100000 in
theorem said : Rows.FnScriptWhatSaid :=
  OpenClaim.holds_of_cond 5 Tryz.f5 rfl rfl rfl rfl rfl rfl rfl ⟨rfl, rfl, rfl, rfl, rfl⟩ rfl rfl rfl rfl rfl (by kernel_rfl) Tryz.func5 (by kernel_rfl)
    (of_decide_eq_true (by kernel_rfl)) (by unfold Func.isWrapper; first | (rw [if_pos (by decide +kernel)]; kernel_rfl) | (rw [if_neg (by decide +kernel)]; exact ⟨rfl, rfl⟩))
    (fun os started H enc _ F => by rw [OpenClaim.pre_eq_preRow]; exact lifted os started H enc F)

set_option maxRecDepth 100000 in
theorem plain (f : FuncId) (fn : Func) (hf : Tryz.pinned.checked.prog.funcNamed "loop.example/capturemonitor/laws.FnScriptWhat" = some f) (hfn : Tryz.pinned.checked.prog.funcs[f]? = some fn) :
    false = Tryz.pinned.checked.prog.looks [] ∧ ∀ (j : Nat) t, fn.params[j]? = some t → Tryz.pinned.checked.prog.wantsStandIn t = false := by
  obtain rfl : f = 5 := Option.some.inj ((show Tryz.prog.funcNamed "loop.example/capturemonitor/laws.FnScriptWhat" = some 5 by kernel_rfl).symm.trans hf) |>.symm
  obtain rfl : fn = Tryz.f5 := (Option.some.inj (Tryz.func5.symm.trans hfn)).symm
  refine ⟨by kernel_rfl, fun j t ht => ?_⟩
  rw [Tryz.params5] at ht
  obtain rfl : t = 22 := by simpa using Array.mem_of_getElem? ht
  exact (show Tryz.prog.wantsStandIn 22 = false by kernel_rfl)

set_option maxRecDepth 100000 in
theorem card : Rows.FnScriptWhatCardSaid :=
  Claim7.holds_tied_plain_at .later [] _ _ _ _ said (fun _ h => by cases h) (by kernel_rfl) (fun _ h => by cases h) fnScriptWhat_row_tie rfl ⟨rfl, rfl⟩ (by kernel_rfl) rfl plain (by kernel_rfl)
end Go.Proofs.YtjkbbdmkgealfaaGreatDoor.fnScriptWhat
