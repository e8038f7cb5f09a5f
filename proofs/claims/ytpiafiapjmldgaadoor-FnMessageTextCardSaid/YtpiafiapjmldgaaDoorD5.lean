/-
  The laws of findings and their texts hold.
-/
import Derived.Test.YtpiafiapjmldgaaDoorD4
import Derived.Test.YtpiafiapjmldgaaDoorDP
namespace Go.Proofs.YtpiafiapjmldgaaDoor
set_option linter.all false
set_option maxRecDepth 20000
attribute [-simp] List.getD_eq_getElem?_getD

theorem FnExactFindingsText_ok (l : List (Int × Int)) (hl : (l.length : Int) ≤ 9223372036854775807) : Fn Tryd.prog fn_laws_FnExactFindingsText [fsl l] [] (.bool true) [] := by
  refine Fn.of_go ln_laws_FnExactFindingsText rfl ?_
  simp [ac_laws_FnExactFindingsText, fsl]
  refine goCall_eq (szFindingS_ok l 1048576 (by omega) hl) (by simp [fsl]) ?_
  simp
  by_cases h0 : (1048576 : Int) - l.length < 0
  · simp [h0]
    exact Ends.mk [] [] (by simp)
  · have t1 := toFindingS_ok l (by omega)
    simp [h0]
    refine goCall_gen [] [] [] [] none t1 (by simp [fsl]) ?_
    simp
    refine goCall_gen [] [] [] [208] none (spec_FindingsText_ok l (by omega)) (by simp [fsl]) ?_
    simp
    refine goCall_gen [] [] [] [] none t1 (by simp [fsl]) ?_
    simp
    refine goCall_gen [] [] [] [256] none (impl_FindingsText_ok l (by omega)) (by simp [fsl]) ?_
    simp
    refine goCall_gen [] [] [] [] none t1 (by simp [fsl]) ?_
    simp
    refine goCall_gen [] [] [] [256, 384] none (eqFindingS_ok l l (by omega)) (by simp [fsl]) ?_
    simp
    exact Ends.mk [] [] (by simp)

theorem FnFindings_ok (code : List UInt8) : Fn Tryd.prog fn_laws_FnFindings [bsl code] [] (.bool true) [] := by
  obtain ⟨l, hl, f1⟩ := DrawFindingsText_ok code
  refine Fn.of_go ln_laws_FnFindings rfl ?_
  simp [ac_laws_FnFindings, bsl]
  refine goTest_dec (fun h0 => ?_) (fun h0 => ?_)
  · simp [h0]
    exact Ends.mk [] [] (by simp)
  simp [h0]
  refine goCall_gen [] [] [] [] none f1 (by simp [bsl]) ?_
  simp
  refine goCall_gen [] [] [] [192] none (impl_FindingsText_ok l (by omega)) (by simp [fsl]) ?_
  simp
  refine goCall_gen [] [] [] [192] none (spec_FindingsText_ok l (by omega)) (by simp [fsl]) ?_
  simp
  cases hv : fsOk 60 l with
  | false =>
    have hne : l ≠ [] := fun e => by subst e; simp [fsOk, allTo] at hv
    have hl0 : 0 < l.length := List.length_pos_iff.2 hne
    simp [ftext, hv, hl0]
    exact Ends.mk [] [] (by simp)
  | true =>
    have hp := parse_textF hv
    have hle := ftext_len l
    have g1 := impl_FindingsParse_ok (textF l) (by simp [ftext, hv] at hle; omega)
    simp [parseV, hp] at g1
    by_cases hn : l = []
    · subst hn
      simp [ftext, hv, textF] at g1 ⊢
      refine goCall_gen [] [] [] [] none g1 (by simp) ?_
      simp
      refine goCall_gen [] [] [] [192, 512] none (sameFound_ok [] [] (by simp)) (by simp [fsl]) ?_
      simp
      exact Ends.mk [] [] (by simp)
    · have ht := textF_ne hn
      simp [ftext, hv, ht]
      refine goCall_gen [] [] [] [] none g1 (by simp) ?_
      simp
      refine goCall_gen [] [] [] [192, 512] none (sameFound_ok l l (by omega)) (by simp [fsl]) ?_
      simp
      exact Ends.mk [] [] (by simp)

theorem FnFindingsParse_ok (code : List UInt8) : Fn Tryd.prog fn_laws_FnFindingsParse [bsl code] [] (.bool true) [] := by
  obtain ⟨t, ht, f1⟩ := DrawFindingsParse_ok code
  have g1 := impl_FindingsParse_ok t (by omega)
  have g2 := spec_FindingsParse_ok t (by omega)
  refine Fn.of_go ln_laws_FnFindingsParse rfl ?_
  simp [ac_laws_FnFindingsParse, bsl]
  refine goTest_dec (fun h0 => ?_) (fun h0 => ?_)
  · simp [h0]
    exact Ends.mk [] [] (by simp)
  simp [h0]
  refine goCall_gen [] [] [] [] none f1 (by simp [bsl]) ?_
  simp
  cases hp : parseF t with
  | none =>
    simp [parseV, hp] at g1 g2
    refine goCall_gen [] [] [] [] none g1 (by simp) ?_
    simp
    refine goCall_gen [] [] [] [] none g2 (by simp) ?_
    simp
    refine goCall_gen [] [] [] [320] none (sameFound_ok [] [] (by simp)) (by simp [fsl]) ?_
    simp
    refine goCall_gen [] [] [] [320] none (sameFound_ok [] [] (by simp)) (by simp [fsl]) ?_
    simp
    exact Ends.mk [] [] (by simp)
  | some fs =>
    have hco := parseF_count hp
    have htx := text_parse hp
    have hfs : fs.length ≤ 1000 := by
      have := List.count_le_length (a := (10 : UInt8)) (l := t)
      omega
    simp [parseV, hp] at g1 g2
    refine goCall_gen [] [] [] [] none g1 (by simp) ?_
    simp
    refine goCall_gen [] [] [] [] none g2 (by simp) ?_
    simp
    refine goCall_gen [] [] [] [240, 320] none (sameFound_ok fs fs (by omega)) (by simp [fsl]) ?_
    simp
    refine goCall_gen [] [] [] [240] none (impl_FindingsText_ok fs (by omega)) (by simp [fsl]) ?_
    simp [htx]
    exact Ends.mk [] [] (by simp)

end Go.Proofs.YtpiafiapjmldgaaDoor
