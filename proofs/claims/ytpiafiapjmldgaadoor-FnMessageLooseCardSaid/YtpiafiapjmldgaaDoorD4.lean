/-
  Findings as texts by the program; and the laws of findings that speak of their texts.
-/
import Derived.Test.YtpiafiapjmldgaaDoorD3
import Derived.Test.YtpiafiapjmldgaaDoorB9
namespace Go.Proofs.YtpiafiapjmldgaaDoor
set_option linter.all false
set_option maxRecDepth 20000
attribute [-simp] List.getD_eq_getElem?_getD

theorem impl_FindingsText_ok (l : List (Int × Int)) (hl : l.length ≤ 1100000) : Fn Tryd.prog fn_impl_FindingsText [fsl l] [] (.str (ftext l)) [] := by
  refine Fn.of_go ln_impl_FindingsText rfl ?_
  simp [ac_impl_FindingsText, fsl]
  refine goCall_eq (foundOk_ok l 60 (by omega)) (by simp [fsl]) ?_
  simp
  refine goTest_bool (fun hv => ?_) (fun hv => ?_)
  rotate_left
  · simp [hv]
    exact Ends.mk [] [] (by simp [ftext, hv])
  simp [hv]
  have hb := fsOk_all hv
  refine go_loop (fun i => { env := [(9, fsl l), (10, .int .i64 (l.length : Nat)), (3, .str (textF (l.take i))), (11, .int .i64 (i : Nat))], loc := [], box := [], stat := [] }) (fun i => i ≤ l.length) (fun i => l.length - i) 0 (by omega) (Weak.of [] [] (by simp [fsl, textF])) ?_
  intro i hi
  simp [fsl]
  refine goTest_dec (fun hlt => ?_) (fun hge => ?_)
  · have h1 := fOk_range (hb _ (nth_mem hlt))
    have h3 := textF_len (l := l.take i) fun f hf => by have := fOk_range (hb f (List.mem_of_mem_take hf)); omega
    simp at h3
    have hsn := textF_snoc hlt
    obtain ⟨a, ha⟩ := Int.eq_ofNat_of_zero_le h1.1.1
    obtain ⟨b, hb'⟩ := Int.eq_ofNat_of_zero_le h1.2.1
    have a1 := decS_len20 (n := a) (by omega)
    have a2 := decS_len20 (n := b) (by omega)
    have i1 := Itoa_ok (a : Int) (by omega) (by omega)
    have i2 := Itoa_ok (b : Int) (by omega) (by omega)
    rw [itoa_dec] at i1 i2
    simp [hlt, fV]
    rw [ha]
    refine goDCall_eq i1 (by simp) (by simp) ?_
    simp
    rw [hb']
    refine ⟨by omega, goDCall_eq i2 (by simp) (by simp) ?_⟩
    simp
    exact ⟨by omega, by omega, by omega, by omega, .mk (i + 1) hlt (by omega) (Weak.of [] [] (by simp [fsl, hsn, lineT, ha, hb']))⟩
  · obtain rfl : i = l.length := by omega
    simp
    exact Ends.mk [] [] (by simp [ftext, hv])

theorem szFindingS_ok (l : List (Int × Int)) (n : Int) (hn : 0 ≤ n ∧ n < 1000000000000) (hl : (l.length : Int) ≤ 9223372036854775807) : Fn Tryd.prog fn_laws_szFindingS [fsl l, .int .i64 n] [] (.int .i64 (if n - l.length < 0 then -1 else n - l.length)) [] := by
  refine Fn.of_go ln_laws_szFindingS rfl ?_
  simp [ac_laws_szFindingS, fsl]
  refine ⟨by omega, goTest_dec (fun h => ?_) (fun h => ?_)⟩
  · simp [h]
    exact Ends.mk [] [] (by simp)
  · simp [h]
    exact Ends.mk [] [] (by simp)

theorem toFinding_ok (f : Int × Int) : Fn Tryd.prog fn_laws_toFinding [fV f] [] (fV f) [] := by
  refine Fn.of_go ln_laws_toFinding rfl ?_
  simp [ac_laws_toFinding, fV]
  exact Ends.mk [] [] (by simp)

theorem setEl_both {l : List (Int × Int)} {j : Nat} {x : Int × Int} (h : j < l.length) : setEl j 0 [V.int .i64 x.1, V.int .i64 x.2] (l.map fV) = (l.set j x).map fV := by
  unfold setEl
  rw [getD_map h, List.map_set]
  simp [fV, wrEl, setCells]

/-- A list that is filled from its head on. -/
def zl (l : List (Int × Int)) (i : Nat) : List (Int × Int) := l.take i ++ List.replicate (l.length - i) (0, 0)
theorem zl_len {l : List (Int × Int)} {i : Nat} (h : i ≤ l.length) : (zl l i).length = l.length := by simp [zl]; omega
theorem zl_set {l : List (Int × Int)} {i : Nat} (h : i < l.length) : (zl l i).set i (nth l i) = zl l (i + 1) := by
  have e1 : l.length - i = (l.length - (i + 1)) + 1 := by omega
  have e2 : (l.take i).length = i := by simp; omega
  unfold zl
  rw [take_nth h, e1, List.replicate_succ, List.set_append_right _ _ (by omega), e2]
  simp
theorem zl_end (l : List (Int × Int)) : zl l l.length = l := by simp [zl]

theorem toFindingS_ok (l : List (Int × Int)) (hl : l.length ≤ 1100000) : Fn Tryd.prog fn_laws_toFindingS [fsl l] [] (.sl (some 0) 2 (l.map fV)) [] := by
  refine Fn.of_go ln_laws_toFindingS rfl ?_
  simp [ac_laws_toFindingS, fsl]
  refine ⟨by simp [roomOk]; omega, ?_⟩
  refine go_loop (fun i => { env := [(0, fsl l), (3, .sl (some 0) 2 ((zl l i).map fV)), (4, .int .i64 (i : Nat))], loc := [], box := [], stat := [(0, some (.own l.length 2))] }) (fun i => i ≤ l.length) (fun i => l.length - i) 0 (by omega) (Weak.of [(0, some 112, l.length, 2)] [] (by simp [fsl, zl, fV])) ?_
  intro i hi
  have hz := zl_len hi
  simp [fsl]
  refine goTest_dec (fun hlt => ?_) (fun hge => ?_)
  · have hs := zl_set hlt
    have hlz : i < (zl l i).length := by omega
    have he := setEl_both (l := zl l i) (x := nth l i) hlz
    simp [hlt, fV]
    refine goCall_eq (toFinding_ok (nth l i)) (by simp [fV]) ?_
    simp [fV, hz, hlt, he, hs]
    exact ⟨by omega, .mk (i + 1) hlt (by omega) (Weak.of [(0, some 0, l.length, 2)] [] (by simp [fsl]))⟩
  · obtain rfl : i = l.length := by omega
    simp [zl_end]
    exact Ends.mk [(0, some 0, l.length, 2)] [] (by simp)

theorem DrawFindingsText_ok (code : List UInt8) : ∃ l : List (Int × Int), l.length ≤ 10 ∧ Fn Tryd.prog fn_spec_DrawFindingsText [bsl code] [] (.sl (some 0) 2 (l.map fV)) [] := by
  obtain ⟨src, ho⟩ : ∃ s, Fn Tryd.prog fn_spec_l6Open [bsl code] [] (.ptr 1000 0) [[bsl s, .int .i64 0]] := ⟨_, open_ok code⟩
  obtain ⟨_, _, ⟨l, b, hl, hb⟩, f1⟩ := found_ok src 0 (by omega)
  refine ⟨l, hl, Fn.of_go ln_spec_DrawFindingsText rfl ?_⟩
  simp [ac_spec_DrawFindingsText]
  refine goCall_gen [] [] [] [] (some 1000) ho (by simp [bsl]) ?_
  simp [bsl]
  refine goCall_gen [] [(1000, 4)] [] [] none f1 (by simp [bsl]) ?_
  simp
  exact Ends.mk [(0, some 80, l.length, 2)] [] (by simp)
end Go.Proofs.YtpiafiapjmldgaaDoor
