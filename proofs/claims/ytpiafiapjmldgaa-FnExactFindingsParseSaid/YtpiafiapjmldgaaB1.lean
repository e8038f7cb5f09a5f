/-
  Findings: what the functions that look at them do.
-/
import Derived.Test.YtpiafiapjmldgaaSet
namespace Go.Proofs.Ytpiafiapjmldgaa
set_option linter.all false
set_option maxRecDepth 20000


attribute [-simp] List.getD_eq_getElem?_getD

/-- A test holds of all numbers below a bound. -/
def allTo (p : Nat → Bool) (n : Nat) : Bool := (List.range n).all p
theorem allTo_zero {p : Nat → Bool} : allTo p 0 = true := rfl
theorem allTo_succ {p : Nat → Bool} {n : Nat} (h : allTo p n = true) (h2 : p n = true) : allTo p (n + 1) = true := by
  unfold allTo at *; rw [List.range_succ]; simp_all
theorem allTo_false {p : Nat → Bool} {n i : Nat} (hi : i < n) (h : p i = false) : allTo p n = false := by
  unfold allTo; rw [List.all_eq_false]; exact ⟨i, by simpa using hi, by simp [h]⟩
theorem allTo_iff {p : Nat → Bool} {n : Nat} : allTo p n = true ↔ ∀ i, i < n → p i = true := by
  unfold allTo; simp

def inB (n a b : Int) : Bool := decide (a ≤ n) && decide (n ≤ b)

theorem l6In_ok (n a b : Int) : Fn Try.prog fn_spec_l6In [.int .i64 n, .int .i64 a, .int .i64 b] [] (.bool (inB n a b)) [] := by
  refine Fn.of_go ln_spec_l6In rfl ?_
  simp [ac_spec_l6In]
  repeat' (first
    | (refine goTest_dec (fun h => ?_) (fun h => ?_) <;> simp [h])
    | exact Ends.mk [] [] (by simp [inB, *]))

/-- A finding: at which record, of what kind. -/
def fV (f : Int × Int) : V := .agg [.int .i64 f.1, .int .i64 f.2]
def fsl (l : List (Int × Int)) : V := .sl none 2 (l.map fV)

def fLess (f g : Int × Int) : Bool := decide (f.1 < g.1) || (decide (f.1 = g.1) && decide (f.2 < g.2))

theorem l32Less_ok (f g : Int × Int) : Fn Try.prog fn_spec_l32Less [fV f, fV g] [] (.bool (fLess f g)) [] := by
  refine Fn.of_go ln_spec_l32Less rfl ?_
  simp [ac_spec_l32Less, fV]
  repeat' (first
    | (refine goTest_dec (fun h => ?_) (fun h => ?_) <;> simp [h])
    | exact Ends.mk [] [] (by simp [fLess, *]))

theorem eqFinding_ok (f g : Int × Int) : Fn Try.prog fn_laws_eqFinding [fV f, fV g] [] (.bool (decide (f = g))) [] := by
  refine Fn.of_go ln_laws_eqFinding rfl ?_
  simp [ac_laws_eqFinding, fV, Prod.ext_iff]
  repeat' (first
    | (refine goTest_dec (fun h => ?_) (fun h => ?_) <;> simp [h])
    | exact Ends.mk [] [] (by simp [*]))

def fOk (n : Int) (f : Int × Int) : Bool := inB f.1 0 (n - 1) && (inB f.2 1 11 || inB f.2 101 105)

theorem l32Finding_ok (f : Int × Int) (n : Int) (hn : -1000 ≤ n) (hn2 : n ≤ 9223372036854775807) : Fn Try.prog fn_spec_l32Finding [fV f, .int .i64 n] [] (.bool (fOk n f)) [] := by
  refine Fn.of_go ln_spec_l32Finding rfl ?_
  simp [ac_spec_l32Finding, fV]
  repeat' (first
    | (refine ⟨by omega, ?_⟩)
    | (refine goCall_eq (l6In_ok _ _ _) (by simp) ?_; simp)
    | (refine goTest_bool (fun h => ?_) (fun h => ?_) <;> simp [h])
    | exact Ends.mk [] [] (by simp [fOk, *]))

/-- Findings in order. -/
def fsP (n : Int) (l : List (Int × Int)) (k : Nat) : Bool := fOk n (nth l k) && (k == 0 || fLess (nth l (k - 1)) (nth l k))
def fsOk (n : Int) (l : List (Int × Int)) : Bool := allTo (fsP n l) l.length

theorem l42Valid_ok (l : List (Int × Int)) (hl : l.length ≤ 1000000000000) : Fn Try.prog fn_spec_l42Valid [fsl l] [] (.bool (fsOk 60 l)) [] := by
  refine Fn.of_go ln_spec_l42Valid rfl ?_
  simp [ac_spec_l42Valid, fsl]
  refine go_loop (fun i => { env := [(0, fsl l), (3, .int .i64 (i : Nat))], loc := [], box := [], stat := [] }) (fun i => i ≤ l.length ∧ allTo (fsP 60 l) i = true) (fun i => l.length - i) 0 ⟨by omega, rfl⟩ (Weak.of [] [] (by simp [fsl])) ?_
  rintro i ⟨hi, hp⟩
  simp [fsl]
  refine goTest_dec (fun hlt => ?_) (fun hge => ?_)
  · have hs : fsP 60 l i = false → fsOk 60 l = false := allTo_false hlt
    simp [hlt, fV]
    refine goDCall_eq (l32Finding_ok _ _ (by omega) (by omega)) (by simp) (by simp) ?_
    simp
    have hlt2 : i - 1 < l.length := by omega
    refine goTest_bool (fun h1 => ?_) (fun h1 => ?_)
    · simp [h1]
      refine goTest_dec (fun h2 => ?_) (fun h2 => ?_)
      · simp [h2, hlt, hlt2, fV]
        refine ⟨by omega, by omega, ?_⟩
        refine goCall_eq (l32Less_ok _ _) (by simp) ?_
        simp
        refine goTest_bool (fun h3 => ?_) (fun h3 => ?_)
        · simp [h3]
          exact ⟨by omega, .mk (i + 1) ⟨by omega, allTo_succ hp (by simp [fsP, h1, h3])⟩ (by omega) (Weak.of [] [] (by simp [fsl]))⟩
        · simp [h3]
          exact Ends.mk [] [] (by simp [hs, fsP, h1, h3, show i ≠ 0 by omega])
      · simp [h2]
        exact ⟨by omega, .mk (i + 1) ⟨by omega, allTo_succ hp (by obtain rfl : i = 0 := (by omega); simp [fsP, h1])⟩ (by omega) (Weak.of [] [] (by simp [fsl]))⟩
    · simp [h1]
      exact Ends.mk [] [] (by simp [hs, fsP, h1])
  · obtain rfl : i = l.length := by omega
    simp
    exact Ends.mk [] [] (by simp [fsOk, hp])

theorem fOk_eq {n : Int} {f : Int × Int} : fOk n f = decide (0 ≤ f.1 ∧ f.1 < n ∧ ((1 ≤ f.2 ∧ f.2 ≤ 11) ∨ (101 ≤ f.2 ∧ f.2 ≤ 105))) := by
  rw [Bool.eq_iff_iff]; simp [fOk, inB]; omega

theorem foundOk_ok (l : List (Int × Int)) (n : Int) (hl : l.length ≤ 1000000000000) : Fn Try.prog fn_impl_foundOk [fsl l, .int .i64 n] [] (.bool (fsOk n l)) [] := by
  refine Fn.of_go ln_impl_foundOk rfl ?_
  simp [ac_impl_foundOk, fsl]
  refine go_loop (fun i => { env := [(0, fsl l), (1, .int .i64 n), (7, fsl l), (8, .int .i64 (l.length : Nat)), (9, .int .i64 (i : Nat))], loc := [], box := [], stat := [] }) (fun i => i ≤ l.length ∧ allTo (fsP n l) i = true) (fun i => l.length - i) 0 ⟨by omega, rfl⟩ (Weak.of [] [] (by simp [fsl])) ?_
  rintro i ⟨hi, hp⟩
  simp [fsl]
  refine goTest_dec (fun hlt => ?_) (fun hge => ?_)
  · have hs : fsP n l i = false → fsOk n l = false := allTo_false hlt
    have hlt2 : i - 1 < l.length := by omega
    simp [hlt, fV]
    generalize hx : nth l i = x at *
    repeat' (first
      | (refine goTest_dec (fun h => ?_) (fun h => ?_) <;> simp [h, hlt, hlt2, hx, fV])
      | (refine And.intro (by omega) ?_)
      | exact Again.mk (i + 1) ⟨by omega, allTo_succ hp (by simp [fsP, fOk_eq, fLess, hx]; omega)⟩ (by omega) (Weak.of [] [] (by simp [fsl]))
      | exact Ends.mk [] [] (by simp [hs (by simp [fsP, fOk_eq, fLess, hx]; omega)]))
  · obtain rfl : i = l.length := by omega
    simp
    exact Ends.mk [] [] (by simp [fsOk, hp])
end Go.Proofs.Ytpiafiapjmldgaa
