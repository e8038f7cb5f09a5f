/-
  The rules by which simp runs abstract code.
  Findings: what the functions that look at them do.
-/
import Derived.Test.YtnhhcfbigjpfeaaDoorAcodeP
import Derived.Test.YtnhhcfbigjpfeaaDoorQ16
namespace Go.Proofs.YtnhhcfbigjpfeaaDoor
set_option linter.all false

section
attribute [simp] go_nil go_skip go_seq go_region go_block go_exit go_ret go_inBlock go_inBlock_exit go_inBlock_ret go_code_exit go_code_ret go_back go_back_exit go_back_ret go_cond go_ops_nil go_ops_exit go_ops_cons go_ops_guard goGuard_skip goGuard_T goGuard_F goOp_pick goOp_op goOp_store goStore_ptr goStore_elp goOp_call goOp_callv goCallV_fn goTest_true goTest_false goStep_some endQ_ret endQ_normal exQ_ret exQ_normal
 go_drawn go_dops_nil go_dops_exit go_dops_cons go_dops_guard goDOp_call goDOp_pick goDOp_op goDStep_some foot indepAll lookR Rec.indep disjB
attribute [simp] astep St.val look lookB lookS St.put Delta.apply binV unV eqK eqK1 eqC eqC1 AD.num V.stamps V.cells V.stamp1 aliveAll freshAll V.okR V.okRA V.okR1 V.ren V.renA V.ren1 V.renP renN renBoxes rsS toImm deadM V.stat V.comps compsStat cellsStat cellStat boundO part V.elems aliveV
 relV relA relC relCs relAs relPs lent fullM cutM statM okM lookM newM okB hasB hasN keepB okN lookN oldN withNew boxesOf boxesFrom boxesStat argStat resStat CallOk oldsM newB boxStamps noref V.nr nrAs V.nrA nrs V.nr1 nrB V.pure1 V.isPtr
 St.wr V.wr V.wrA V.wr1 St.result St.res1 St.resOk inR St.start okE byteOf bytesOf V.okB V.flat1 V.er V.er1 elsOk V.okEl V.cell1 alive fillV partsOk

theorem ilt_lit (n k : Nat) : ((n : Int) < no_index (OfNat.ofNat k : Int)) ↔ n < (OfNat.ofNat k : Nat) := Int.ofNat_lt
theorem ile_lit (n k : Nat) : ((n : Int) ≤ no_index (OfNat.ofNat k : Int)) ↔ n ≤ (OfNat.ofNat k : Nat) := Int.ofNat_le
theorem ilit_lt (n k : Nat) : (no_index (OfNat.ofNat k : Int) < (n : Int)) ↔ (OfNat.ofNat k : Nat) < n := Int.ofNat_lt
theorem ilit_le (n k : Nat) : (no_index (OfNat.ofNat k : Int) ≤ (n : Int)) ↔ (OfNat.ofNat k : Nat) ≤ n := Int.ofNat_le
theorem ieq_lit (n k : Nat) : ((n : Int) = no_index (OfNat.ofNat k : Int)) ↔ n = (OfNat.ofNat k : Nat) := Int.ofNat_inj
theorem ilit_eq (n k : Nat) : (no_index (OfNat.ofNat k : Int) = (n : Int)) ↔ (OfNat.ofNat k : Nat) = n := Int.ofNat_inj
theorem toNat_lit (k : Nat) : (no_index (OfNat.ofNat k : Int)).toNat = (OfNat.ofNat k : Nat) := rfl

theorem goTest_bool {P : Program} {k₁ k₂ : List It} {st₁ st₂ : St} {Q : AE → St → Prop} {b : Bool} (h1 : b = true → go P k₁ Q .normal st₁) (h2 : b = false → go P k₂ Q .normal st₂) : goTest P (.bool b) k₁ st₁ k₂ st₂ Q := by
  cases b with
  | true => exact h1 rfl
  | false => exact h2 rfl

theorem goTest_not {P : Program} {k₁ k₂ : List It} {st₁ st₂ : St} {Q : AE → St → Prop} {b : Bool} : goTest P (.bool (!b)) k₁ st₁ k₂ st₂ Q = goTest P (.bool b) k₂ st₂ k₁ st₁ Q := by cases b <;> rfl
attribute [simp] goTest_not

/-- An element of a list. -/
def nth {α : Type} [Inhabited α] (l : List α) (i : Nat) : α := l.getD i default

theorem nth_eq {α : Type} [Inhabited α] {l : List α} {i : Nat} (h : i < l.length) : nth l i = l[i] := by simp [nth, List.getD_eq_getElem?_getD, h]
theorem nth_mem {α : Type} [Inhabited α] {l : List α} {i : Nat} (h : i < l.length) : nth l i ∈ l := by rw [nth_eq h]; exact List.getElem_mem _
theorem getD_map {α : Type} [Inhabited α] {f : α → V} {l : List α} {i : Nat} (h : i < l.length) : (l.map f).getD i .undef = f (nth l i) := by
  simp [nth, List.getD_eq_getElem?_getD, h]
theorem getD_nth {α : Type} [Inhabited α] {l : List α} {i : Nat} {d : α} (h : i < l.length) : l.getD i d = nth l i := by
  simp [nth, List.getD_eq_getElem?_getD, h]
theorem take_nth {α : Type} [Inhabited α] {l : List α} {i : Nat} (h : i < l.length) : l.take (i + 1) = l.take i ++ [nth l i] := by
  rw [List.take_succ_eq_append_getElem h, nth_eq h]

theorem getD_cons' {α : Type} (x : α) (l : List α) (n : Nat) (d : α) : (x :: l).getD n d = if n = 0 then x else l.getD (n - 1) d := by cases n <;> rfl

attribute [simp] getD_cons' ilt_lit ile_lit ilit_lt ilit_le ieq_lit ilit_eq toNat_lit Int.ofNat_lt Int.ofNat_le Int.ofNat_inj getD_map
attribute [-simp] List.getD_eq_getElem?_getD

def bsl (l : List UInt8) : V := .sl none 1 (l.map byteV)

attribute [simp] byteV

theorem wrap_byte {x : Int} (h : 0 ≤ x) (h2 : x < 256) : IntKind.u8.wrap x = x := by
  simp [IntKind.wrap, IntKind.bits, IntKind.signed]
  omega
end

section
set_option maxRecDepth 20000


attribute [-simp] List.getD_eq_getElem?_getD

/-- A test holds of all numbers below a bound. -/
def allTo (p : Nat → Bool) (n : Nat) : Bool := (List.range n).all p
theorem allTo_succ {p : Nat → Bool} {n : Nat} (h : allTo p n = true) (h2 : p n = true) : allTo p (n + 1) = true := by
  unfold allTo at *; rw [List.range_succ]; simp_all
theorem allTo_false {p : Nat → Bool} {n i : Nat} (hi : i < n) (h : p i = false) : allTo p n = false := by
  unfold allTo; rw [List.all_eq_false]; exact ⟨i, by simpa using hi, by simp [h]⟩
theorem allTo_iff {p : Nat → Bool} {n : Nat} : allTo p n = true ↔ ∀ i, i < n → p i = true := by
  unfold allTo; simp

def inB (n a b : Int) : Bool := decide (a ≤ n) && decide (n ≤ b)

theorem l6In_ok (n a b : Int) : Fn Tryd.prog fn_spec_l6In [.int .i64 n, .int .i64 a, .int .i64 b] [] (.bool (inB n a b)) [] := by
  refine Fn.of_go ln_spec_l6In rfl ?_
  simp [ac_spec_l6In]
  repeat' (first
    | (refine goTest_dec (fun h => ?_) (fun h => ?_) <;> simp [h])
    | exact Ends.mk [] [] (by simp [inB, *]))

/-- A finding: at which record, of what kind. -/
def fV (f : Int × Int) : V := .agg [.int .i64 f.1, .int .i64 f.2]
def fsl (l : List (Int × Int)) : V := .sl none 2 (l.map fV)

def fLess (f g : Int × Int) : Bool := decide (f.1 < g.1) || (decide (f.1 = g.1) && decide (f.2 < g.2))

theorem l32Less_ok (f g : Int × Int) : Fn Tryd.prog fn_spec_l32Less [fV f, fV g] [] (.bool (fLess f g)) [] := by
  refine Fn.of_go ln_spec_l32Less rfl ?_
  simp [ac_spec_l32Less, fV]
  repeat' (first
    | (refine goTest_dec (fun h => ?_) (fun h => ?_) <;> simp [h])
    | exact Ends.mk [] [] (by simp [fLess, *]))

theorem eqFinding_ok (f g : Int × Int) : Fn Tryd.prog fn_laws_eqFinding [fV f, fV g] [] (.bool (decide (f = g))) [] := by
  refine Fn.of_go ln_laws_eqFinding rfl ?_
  simp [ac_laws_eqFinding, fV, Prod.ext_iff]
  repeat' (first
    | (refine goTest_dec (fun h => ?_) (fun h => ?_) <;> simp [h])
    | exact Ends.mk [] [] (by simp [*]))

def fOk (n : Int) (f : Int × Int) : Bool := inB f.1 0 (n - 1) && (inB f.2 1 11 || inB f.2 101 105)

theorem l32Finding_ok (f : Int × Int) (n : Int) (hn : -1000 ≤ n) (hn2 : n ≤ 9223372036854775807) : Fn Tryd.prog fn_spec_l32Finding [fV f, .int .i64 n] [] (.bool (fOk n f)) [] := by
  refine Fn.of_go ln_spec_l32Finding rfl ?_
  simp [ac_spec_l32Finding, fV]
  repeat' (first
    | (refine ⟨by omega, ?_⟩)
    | (refine goCall_eq (l6In_ok _ _ _) (by simp) ?_; simp)
    | (refine goTest_bool (fun h => ?_) (fun h => ?_) <;> simp [h])
    | exact Ends.mk [] [] (by simp [fOk, *]))

/-- Findings in order. -/
def fsP (n : Int) (l : List (Int × Int)) (k : Nat) : Bool := fOk n (nth l k) && (k == 0 || fLess (nth l (k - 1)) (nth l k))
def fsOk (n : Int) (l : List (Int × Int)) : Bool := allTo (fsP n l) l.length

theorem fOk_eq {n : Int} {f : Int × Int} : fOk n f = decide (0 ≤ f.1 ∧ f.1 < n ∧ ((1 ≤ f.2 ∧ f.2 ≤ 11) ∨ (101 ≤ f.2 ∧ f.2 ≤ 105))) := by
  rw [Bool.eq_iff_iff]; simp [fOk, inB]; omega

theorem foundOk_ok (l : List (Int × Int)) (n : Int) (hl : l.length ≤ 1000000000000) : Fn Tryd.prog fn_impl_foundOk [fsl l, .int .i64 n] [] (.bool (fsOk n l)) [] := by
  refine Fn.of_go ln_impl_foundOk rfl ?_
  simp [ac_impl_foundOk, fsl]
  refine go_loop (fun i => { env := [(0, fsl l), (1, .int .i64 n), (7, fsl l), (8, .int .i64 (l.length : Nat)), (9, .int .i64 (i : Nat))], loc := [], box := [], stat := [] }) (fun i => i ≤ l.length ∧ allTo (fsP n l) i = true) (fun i => l.length - i) 0 ⟨by omega, rfl⟩ (Weak.of [] [] (by simp [fsl])) ?_
  rintro i ⟨hi, hp⟩
  simp [fsl]
  refine goTest_dec (fun hlt => ?_) (fun hge => ?_)
  · have hs : fsP n l i = false → fsOk n l = false := allTo_false hlt
    have hlt2 : i - 1 < l.length := by omega
    simp [hlt, fV]
    generalize hx : nth l i = x at *
    repeat' (first
      | (refine goTest_dec (fun h => ?_) (fun h => ?_) <;> simp [h, hlt, hlt2, hx, fV])
      | (refine And.intro (by omega) ?_)
      | exact Again.mk (i + 1) ⟨by omega, allTo_succ hp (by simp [fsP, fOk_eq, fLess, hx]; omega)⟩ (by omega) (Weak.of [] [] (by simp [fsl]))
      | exact Ends.mk [] [] (by simp [hs (by simp [fsP, fOk_eq, fLess, hx]; omega)]))
  · obtain rfl : i = l.length := by omega
    simp
    exact Ends.mk [] [] (by simp [fsOk, hp])
end

end Go.Proofs.YtnhhcfbigjpfeaaDoor
