/-
  The laws of findings hold.
-/
import Derived.Test.YtpiafiapjmldgaaB9
namespace Go.Proofs.Ytpiafiapjmldgaa
set_option linter.all false
set_option maxRecDepth 20000
attribute [-simp] List.getD_eq_getElem?_getD

theorem FnFindingsTwice_ok (code : List UInt8) : Fn Try.prog fn_laws_FnFindingsTwice [bsl code] [] (.bool true) [] := by
  obtain ⟨t, ht, f1⟩ := DrawFindingsParse_ok code
  have g1 := impl_FindingsParse_ok t (by omega)
  have g2 := spec_FindingsParse_ok t (by omega)
  refine Fn.of_go ln_laws_FnFindingsTwice rfl ?_
  simp [ac_laws_FnFindingsTwice, bsl]
  refine goTest_dec (fun h0 => ?_) (fun h0 => ?_)
  · simp [h0]
    exact Ends.mk [] [] (by simp)
  simp [h0]
  refine goCall_gen [] [] [] [] none f1 (by simp [bsl]) ?_
  simp
  cases hp : parseF t with
  | none =>
    simp [parseV, hp] at g1 g2
    refine goCall_gen [] [] [] [] none g1 (by simp) ?_
    simp
    refine goCall_gen [] [] [] [] none g2 (by simp) ?_
    simp
    refine goCall_gen [] [] [] [352] none (sameFound_ok [] [] (by simp)) (by simp [fsl]) ?_
    simp
    refine goCall_gen [] [] [] [352] none (sameFound_ok [] [] (by simp)) (by simp [fsl]) ?_
    simp
    exact Ends.mk [] [] (by simp)
  | some fs =>
    simp [parseV, hp] at g1 g2
    have hfs : fs.length ≤ 1000 := by
      have := parseF_count hp
      have := List.count_le_length (a := (10 : UInt8)) (l := t)
      omega
    refine goCall_gen [] [] [] [] none g1 (by simp) ?_
    simp
    refine goCall_gen [] [] [] [] none g2 (by simp) ?_
    simp
    refine goCall_gen [] [] [] [272, 352] none (sameFound_ok fs fs (by omega)) (by simp [fsl]) ?_
    simp
    refine goTest_dec (fun h1 => ?_) (fun h1 => ?_)
    · simp [h1]
      refine goCall_gen [] [] [] [272, 352] none (sameFound_ok fs fs (by omega)) (by simp [fsl]) ?_
      simp
      exact Ends.mk [] [] (by simp)
    · have g3 := impl_FindingsParse_ok (t ++ t) (by simp; omega)
      simp [parseV, parseF_twice hp h1] at g3
      simp [h1]
      refine ⟨by omega, goCall_gen [] [] [] [] none g3 (by simp) ?_⟩
      simp
      exact Ends.mk [] [] (by simp)

theorem FnFindingsCut_ok (code : List UInt8) : Fn Try.prog fn_laws_FnFindingsCut [bsl code] [] (.bool true) [] := by
  obtain ⟨t, ht, f1⟩ := DrawFindingsParse_ok code
  have g1 := impl_FindingsParse_ok t (by omega)
  have g2 := spec_FindingsParse_ok t (by omega)
  refine Fn.of_go ln_laws_FnFindingsCut rfl ?_
  simp [ac_laws_FnFindingsCut, bsl]
  refine goTest_dec (fun h0 => ?_) (fun h0 => ?_)
  · simp [h0]
    exact Ends.mk [] [] (by simp)
  simp [h0]
  refine goCall_gen [] [] [] [] none f1 (by simp [bsl]) ?_
  simp
  cases hp : parseF t with
  | none =>
    simp [parseV, hp] at g1 g2
    refine goCall_gen [] [] [] [] none g1 (by simp) ?_
    simp
    refine goCall_gen [] [] [] [] none g2 (by simp) ?_
    simp
    refine goCall_gen [] [] [] [384] none (sameFound_ok [] [] (by simp)) (by simp [fsl]) ?_
    simp
    refine goCall_gen [] [] [] [384] none (sameFound_ok [] [] (by simp)) (by simp [fsl]) ?_
    simp
    exact Ends.mk [] [] (by simp)
  | some fs =>
    simp [parseV, hp] at g1 g2
    have hco := parseF_count hp
    have hfs : fs.length ≤ 1000 := by
      have := List.count_le_length (a := (10 : UInt8)) (l := t)
      omega
    refine goCall_gen [] [] [] [] none g1 (by simp) ?_
    simp
    refine goCall_gen [] [] [] [] none g2 (by simp) ?_
    simp
    refine goCall_gen [] [] [] [304, 384] none (sameFound_ok fs fs (by omega)) (by simp [fsl]) ?_
    simp
    refine goTest_dec (fun h1 => ?_) (fun h1 => ?_)
    · simp [h1]
      refine goCall_gen [] [] [] [304, 384] none (sameFound_ok fs fs (by omega)) (by simp [fsl]) ?_
      simp
      exact Ends.mk [] [] (by simp)
    · have g3 := impl_FindingsParse_ok (t.take (t.length - 1)) (by simp; omega)
      simp [parseV, parseF_cut hp h1] at g3
      have g4 := impl_FindingsParse_ok (32 :: t) (by simp; omega)
      simp [parseV, parseF_space hp h1] at g4
      have hl : 0 < t.length := List.length_pos_iff.2 h1
      have e1 : ((t.length : Int) - 1).toNat = t.length - 1 := by omega
      simp [h1, e1]
      refine ⟨by omega, by omega, goCall_gen [] [] [] [] none g3 (by simp) ?_⟩
      simp
      refine ⟨by omega, goCall_gen [] [] [] [] none g4 (by simp) ?_⟩
      simp
      refine goCall_gen [] [] [] [] none (lines_ok t (by omega)) (by simp) ?_
      simp [hco]
      exact Ends.mk [] [] (by simp)

end Go.Proofs.Ytpiafiapjmldgaa
