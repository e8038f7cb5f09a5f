/-
  The law of findings read and numbered holds.
-/
import Derived.Test.YtpiafiapjmldgaaB9
import Derived.Test.YtpiafiapjmldgaaMark
namespace Go.Proofs.Ytpiafiapjmldgaa
set_option linter.all false
set_option maxRecDepth 20000
attribute [-simp] List.getD_eq_getElem?_getD

def markF : Nat → Int → List (Int × Int)
  | 0, _ => []
  | n + 1, m => (m, m + 1) :: markF n (m + 2)

theorem markL_eq : ∀ (n : Nat) (m : Int), markL n m = (markF n m).map fV
  | 0, _ => rfl
  | n + 1, m => by simp [markL, markF, markL_eq n, fV]

theorem markF_len : ∀ (n : Nat) (m : Int), (markF n m).length = n
  | 0, _ => rfl
  | n + 1, m => by simp [markF, markF_len n]

theorem markF_nth : ∀ (n : Nat) (m : Int) (i : Nat), i < n → nth (markF n m) i = (m + 2 * i, m + 2 * i + 1)
  | 0, _, i, h => by omega
  | n + 1, m, i, h => by
    cases i with
    | zero => simp [markF, nth]
    | succ i =>
      have := markF_nth n (m + 2) i (by omega)
      have e : nth (markF (n + 1) m) (i + 1) = nth (markF n (m + 2)) i := rfl
      rw [e, this]
      simp only [Prod.mk.injEq]
      omega

theorem held_ok (n : Nat) (m : Int) (hn : n ≤ 1000000000) (hm : 0 ≤ m ∧ m ≤ 1000000000) : Fn Try.prog fn_laws_heldFindingS [fsl (markF n m), .int .i64 m] [] (.int .i64 (m + 2 * n)) [] := by
  refine Fn.of_go ln_laws_heldFindingS rfl ?_
  have hl := markF_len n m
  have hx := markF_nth n m
  generalize markF n m = l at hl hx
  simp [ac_laws_heldFindingS, fsl]
  refine go_loop (fun i => { env := [(0, fsl l), (1, .int .i64 (m + 2 * (i : Nat))), (5, .int .i64 (i : Nat))], loc := [], box := [], stat := [] }) (fun i => i ≤ n) (fun i => n - i) 0 (by omega) (Weak.of [] [] (by simp [fsl])) ?_
  intro i hi
  simp [fsl, hl]
  refine goTest_dec (fun hlt => ?_) (fun hge => ?_)
  · have hx1 := hx i hlt
    simp [hlt, hl, hx1, fV]
    refine ⟨by omega, by omega, by omega, .mk (i + 1) (by omega) (by omega) (Weak.of [] [] (by simp [fsl]; omega))⟩
  · obtain rfl : i = n := by omega
    simp [hl]
    exact Ends.mk [] [] (by simp)

theorem mark_none (m : Int) : Fn Try.prog fn_laws_markFindingS [.sl none 2 [], .int .i64 m] [] (.int .i64 m) [] := by
  refine Fn.of_go ln_laws_markFindingS rfl ?_
  simp [ac_laws_markFindingS]
  refine go_loop (fun _ : Unit => { env := [(0, .sl none 2 []), (1, .int .i64 m), (5, .int .i64 0)], loc := [], box := [], stat := [] }) (fun _ => True) (fun _ => 0) () trivial (Weak.of [] [] (by simp)) ?_
  intro _ _
  simp
  exact Ends.mk [] [] (by simp)

theorem FnExactFindingsParse_ok (t : List UInt8) (ht : (t.length : Int) ≤ 9223372036854775807) : Fn Try.prog fn_laws_FnExactFindingsParse [.str t] [] (.bool true) [] := by
  refine Fn.of_go ln_laws_FnExactFindingsParse rfl ?_
  simp [ac_laws_FnExactFindingsParse]
  refine goTest_dec (fun h0 => ?_) (fun h0 => ?_)
  · simp [h0]
    exact Ends.mk [] [] (by simp)
  simp [h0]
  have g1 := impl_FindingsParse_ok t (by omega)
  have g2 := spec_FindingsParse_ok t (by omega)
  cases hp : parseF t with
  | none =>
    simp [parseV, hp] at g1 g2
    refine goCall_gen [] [] [] [] none g2 (by simp) ?_
    simp
    refine goCall_gen [] [] [] [] none g1 (by simp) ?_
    simp
    refine goCall_gen [] [] [] [256] none (eqFindingS_ok [] [] (by simp)) (by simp [fsl]) ?_
    simp
    refine goCall_gen [] [] [] [] none (mark_none 1) (by simp) ?_
    simp
    have hh := held_ok 0 1 (by omega) (by omega)
    simp [markF] at hh
    refine goCall_gen [] [] [] [] none hh (by simp [fsl]) ?_
    simp
    refine goCall_gen [] [] [] [] none g1 (by simp) ?_
    simp
    refine goCall_gen [] [] [] [256] none (eqFindingS_ok [] [] (by simp)) (by simp [fsl]) ?_
    simp
    refine goCall_gen [] [] [] [] none hh (by simp [fsl]) ?_
    simp
    exact Ends.mk [] [] (by simp)
  | some fs =>
    have hfs : fs.length ≤ 1048576 := by
      have := parseF_count hp
      have := List.count_le_length (a := (10 : UInt8)) (l := t)
      omega
    simp [parseV, hp] at g1 g2
    refine goCall_gen [] [] [] [] none g2 (by simp) ?_
    simp
    refine goCall_gen [] [] [] [] none g1 (by simp) ?_
    simp
    refine goCall_gen [] [] [] [256, 336] none (eqFindingS_ok fs fs (by omega)) (by simp [fsl]) ?_
    simp
    refine goCall_eff (mark_eff (σ := 336) (xs := fs.map fV) (m := 1) (by simp) (by omega) (by simp; omega)) ?_
    simp [St.mk', V.mkT, V.mkA, V.mk1, markL_eq]
    have hh := held_ok fs.length 1 (by omega) (by omega)
    refine goCall_gen [] [] [] [336] none hh (by simp [fsl]) ?_
    simp
    refine goTest_dec (fun h1 => by omega) (fun _ => ?_)
    simp
    refine goCall_gen [] [] [] [] none g1 (by simp) ?_
    simp
    refine goCall_gen [] [] [] [256, 736] none (eqFindingS_ok fs fs (by omega)) (by simp [fsl]) ?_
    simp
    refine goCall_gen [] [] [] [336] none hh (by simp [fsl]) ?_
    simp
    refine goTest_dec (fun h1 => by omega) (fun _ => ?_)
    simp
    exact Ends.mk [] [] (by simp)
end Go.Proofs.Ytpiafiapjmldgaa
