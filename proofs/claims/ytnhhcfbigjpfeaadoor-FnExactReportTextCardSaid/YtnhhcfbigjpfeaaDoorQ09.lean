/-
  What is known of the tables that lie in memory before a call: they lie in blocks that nobody may change.
  What a function does, said over abstract values alone; and a call of a function.
-/
import Derived.Test.YtnhhcfbigjpfeaaDoorQ08
import Derived.Lib.LaidTab
import Derived.Lib.ItoaNum
namespace Go.Proofs.YtnhhcfbigjpfeaaDoor
set_option linter.all false

section

/-- The block of a variable that holds some number. -/
def TbNum (g : Nat) (av : Nat → Prop) (w : World) : Prop := av g ∧ ∃ m, w.cell? ⟨g, 0, none⟩ = some (.int .i64 m)

/-- The block of a variable that holds a table. -/
def TbTab (g : Nat) (k : IntKind) (zs : List Int) (av : Nat → Prop) (w : World) : Prop := av g ∧ ∃ t fr, w.heap[g]? = some (.cells (zs.map fun z => Value.int k z).toArray t fr)

theorem TbNum.mono {g : Nat} {av av' : Nat → Prop} {w w' : World} (h : TbNum g av w) (ha : ∀ g, av g → av' g) (hw : ∀ g, av g → w'.heap[g]? = w.heap[g]?) : TbNum g av' w' := by
  obtain ⟨h1, m, h2⟩ := h
  refine ⟨ha g h1, m, ?_⟩
  simp only [World.cell?] at h2 ⊢
  rw [hw g h1]; exact h2

theorem TbTab.mono {g : Nat} {k : IntKind} {zs : List Int} {av av' : Nat → Prop} {w w' : World} (h : TbTab g k zs av w) (ha : ∀ g, av g → av' g) (hw : ∀ g, av g → w'.heap[g]? = w.heap[g]?) : TbTab g k zs av' w' := by
  obtain ⟨h1, t, fr, h2⟩ := h
  exact ⟨ha g h1, t, fr, by rw [hw g h1]; exact h2⟩

/-- What the library's variables hold. -/
structure Tb (av : Nat → Prop) (w : World) : Prop where
  pow10 : TbTab 0 .u64 Lib.pow10Tab av w

theorem Tb.mono {av av' : Nat → Prop} {w w' : World} (h : Tb av w) (ha : ∀ g, av g → av' g) (hw : ∀ g, av g → w'.heap[g]? = w.heap[g]?) : Tb av' w' where
  pow10 := h.pow10.mono ha hw

/-- The blocks that lie there and that nobody owns. -/
def Ghost.un (γ : Ghost) (w : World) (g : Nat) : Prop := g < w.heap.size ∧ γ.ow g = none

/-- A frame in which the tables lie where nobody may change them. -/
structure Ctx.ok (K : Ctx) : Prop where
  tb : Tb (fun g => g < K.w0.heap.size ∧ ¬ K.init g) K.w0
  av : ∀ g, K.av g → g < K.w0.heap.size ∧ ¬ K.init g
end

section

def cellStat : V → Stats
  | .sl (some k) sz xs => [(k, some (.own xs.length sz))]
  | .bb _ k l => [(k, some (.own l.length 1))]
  | _ => []

def cellsStat : List V → Stats
  | [] => []
  | x :: r => cellStat x ++ cellsStat r

/-- The stamps of results, or of what is handed over: each is owned, and as long as the slice that bears it. -/
def compsStat : List V → Stats
  | [] => []
  | x :: r => cellsStat x.cells ++ compsStat r

def V.comps : V → List V
  | .tup vs => vs
  | v => [v]

def V.stat (x : V) : Stats := compsStat x.comps

def boxesFrom (i : Nat) : List (List V) → List (Nat × List V)
  | [] => []
  | b :: r => (i, b) :: boxesFrom (i + 1) r

/-- The variables that are handed over: numbers 1000, 1001 and so on. -/
def boxesOf (bs : List (List V)) : List (Nat × List V) := boxesFrom 1000 bs

def boxesStat : List (List V) → Stats
  | [] => []
  | b :: r => cellsStat b ++ boxesStat r

def argStat (args : List V) (bi : List (List V)) : Stats := compsStat args ++ boxesStat bi
def resStat (R : V) (bo : List (List V)) : Stats := R.stat ++ boxesStat bo

def Ctx.ofGhost (w : World) (γ : Ghost) : Ctx :=
  ⟨w, fun g => γ.ow g ≠ none, γ.av, fun d => if 1000 ≤ d then γ.bx d else none, fun d g h => by
    by_cases e : 1000 ≤ d
    · exact e
    · rw [if_neg e] at h; cases h⟩

/-- How a call ends: with a value that reads as 'R', and variables that read as 'bo'. -/
def Exits (K : Ctx) (R : V) (bo : List (List V)) (e : Ending) (w' : World) : Prop :=
  ∃ v γ', e = .returned v ∧ HInv K (boxesOf bo) (resStat R bo) γ' w' ∧ VRel (resStat R bo) γ' w' R v

/-- THE CONTRACT OF A FUNCTION: called with what reads as 'args', and with variables (numbers 1000, 1001, ..) that read as 'bi', it returns 'R', and the variables then read as 'bo'. -/
def Fn (P : Program) (f : FuncId) (args : List V) (bi : List (List V)) (R : V) (bo : List (List V)) : Prop :=
  ∀ (w : World) (γ : Ghost) (vs : List Value), Tb (γ.un w) w → HInv (.ofGhost w γ) (boxesOf bi) (argStat args bi) γ w → CellsRel (argStat args bi) γ w args vs → Calls P f vs.toArray w (Exits (.ofGhost w γ) R bo)

theorem boxesFrom_lt : ∀ {bs : List (List V)} {i d : Nat}, (lookB (boxesFrom i bs) d).isSome = true → i ≤ d
  | [], i, d, h => by simp [boxesFrom, lookB] at h
  | b :: r, i, d, h => by
    simp only [boxesFrom, lookB] at h
    by_cases e : d = i
    · omega
    · rw [if_neg e] at h
      have := boxesFrom_lt h
      omega

def renN (B : Bm) (n : Nat) : Nat := (lookN B n).getD 0

def V.renP (B : Bm) : V → V
  | .ptr n o => .ptr (renN B n) o
  | v => v

def V.ren1 (B : Bm) (d : Nat) : V → V
  | .sl (some k) sz xs => .sl (some (16 * d + k)) sz xs
  | .bb e k l => .bb e (16 * d + k) l
  | .ptr n o => .ptr (renN B n) o
  | .fn f cs => .fn f (cs.map (V.renP B))
  | v => v

def V.renA (B : Bm) (d : Nat) : V → V
  | .agg cs => .agg (cs.map (V.ren1 B d))
  | v => v.ren1 B d

/-- A result as it stands at its caller. -/
def V.ren (B : Bm) (d : Nat) : V → V
  | .tup vs => .tup (vs.map (V.renA B d))
  | v => v.renA B d

def rsS (d : Nat) : Stats → Stats
  | [] => []
  | (k, x) :: r => (16 * d + k, x) :: rsS d r

def deadM : Mp → Stats
  | [] => []
  | (_, some σ, _, _) :: r => (σ, some .dead) :: deadM r
  | (_, none, _, _) :: r => deadM r

def V.isPtr : V → Bool
  | .ptr _ _ => true
  | _ => false

/-- A cell of a result. -/
def V.okR1 : V → Bool
  | .bool _ | .int _ _ | .str _ | .nils | .sl _ _ _ | .ptr _ _ | .nilp | .undef | .bb _ _ _ => true
  | .fn _ cs => cs.all V.isPtr
  | _ => false

def V.okRA : V → Bool
  | .agg cs => cs.all V.okR1
  | v => v.okR1

def V.okR : V → Bool
  | .tup vs => vs.all V.okRA
  | v => v.okRA

/-- Names that nobody bears yet. -/
def freshAll (d : Nat) (st : Stats) : Stats → Prop
  | [] => True
  | (k, _) :: r => k < 16 ∧ lookS st (16 * d + k) = none ∧ freshAll d st r

/-! ## Results that hold nothing of what was lent -/

def V.pure1 : V → Bool
  | .bool _ | .int _ _ | .str _ | .nils | .undef => true
  | _ => false

def V.pure : V → Bool
  | .agg cs => cs.all V.pure1
  | v => v.pure1

def V.nr1 (T : Stats) : V → Prop
  | .sl (some k) sz xs => lookS T k = some (.own xs.length sz) ∧ ∀ x ∈ xs, x.cells.all V.pure1 = true
  | .sl none _ _ => False
  | _ => True

def nrs (T : Stats) : List V → Prop
  | [] => True
  | x :: r => x.nr1 T ∧ nrs T r

def V.nrA (T : Stats) : V → Prop
  | .agg cs => nrs T cs
  | v => v.nr1 T

def nrAs (T : Stats) : List V → Prop
  | [] => True
  | x :: r => x.nrA T ∧ nrAs T r

def V.nr (T : Stats) : V → Prop
  | .tup vs => nrAs T vs
  | v => v.nrA T

def nrB (T : Stats) : List (List V) → Prop
  | [] => True
  | b :: r => nrs T b ∧ nrB T r

/-- Nothing of what was lent lies in a result. -/
def noref (R : V) (bo : List (List V)) : Prop := R.nr (resStat R bo) ∧ nrB (resStat R bo) bo

theorem nrs_mem {T : Stats} : ∀ {l : List V}, nrs T l → ∀ x ∈ l, x.nr1 T
  | [], _, x, h => by simp at h
  | y :: r, ⟨h1, h2⟩, x, h => by
    rcases List.mem_cons.1 h with rfl | h
    · exact h1
    · exact nrs_mem h2 x h

theorem nrAs_mem {T : Stats} : ∀ {l : List V}, nrAs T l → ∀ x ∈ l, x.nrA T
  | [], _, x, h => by simp at h
  | y :: r, ⟨h1, h2⟩, x, h => by
    rcases List.mem_cons.1 h with rfl | h
    · exact h1
    · exact nrAs_mem h2 x h

theorem pure1_rel {O O' : Nat → Prop} {w w' : World} {x : V} {v : Value} (hx : x.pure1 = true) (h : PRel O w x v) : PRel O' w' x v := by
  cases h <;> simp [V.pure1] at hx
  case undef => exact .undef _
  case bool => exact .bool _
  case int => exact .int _ _
  case str h => exact .str _ _ h
  case nils => exact .nils

/-- How the names of a result are turned. -/
structure Turn (T S : Stats) (γ' γ2 : Ghost) (B : Bm) (d : Nat) : Prop where
  s : ∀ k t s, lookS T k = some (.own t s) → lookS S (16 * d + k) = some (.own t s) ∧ γ2.sp (16 * d + k) = γ'.sp k
  own : ∀ k x, lookS T k = some x → ∃ t s, x = .own t s
  b : ∀ n g, γ'.bx n = some g → γ2.bx (renN B n) = some g

section
variable {T S : Stats} {γ' γ2 : Ghost} {w : World} {B : Bm} {d : Nat}

theorem renP_rel (hT : Turn T S γ' γ2 B d) {x : V} {v : Value} (hx : x.isPtr = true) (h : VRel T γ' w x v) : VRel S γ2 w (x.renP B) v := by
  cases x <;> simp [V.isPtr] at hx
  obtain ⟨g, rfl, hg⟩ := h.ptr_inv
  exact .ptr (hT.b _ _ hg)

theorem ren1_rel (hT : Turn T S γ' γ2 B d) {x : V} {v : Value} (hn : (∀ g, γ2.O g ↔ γ'.O g) ∨ x.nr1 T)
    (hx : x.okR1 = true) (h : VRel T γ' w x v) : VRel S γ2 w (x.ren1 B d) v := by
  cases x <;> simp [V.okR1] at hx
  case undef => exact .base (.undef _)
  case bool b => obtain rfl := h.bool_inv; exact .base (.bool _)
  case int k n => obtain rfl := h.int_inv; exact .base (.int _ _)
  case str l => obtain ⟨s, rfl, e⟩ := h.str_inv; exact .base (.str _ _ e)
  case nils => obtain rfl := h.nils_inv; exact .base .nils
  case nilp => obtain rfl := h.nilp_inv; exact .nilp
  case bb e k l =>
    cases h with
    | base h => cases h
    | @bb _ _ _ _ s hi hs h =>
      obtain ⟨t, z, rfl⟩ := hT.own _ _ hs
      obtain ⟨h1, h2⟩ := hT.s _ _ _ hs
      refine .bb hi h1 (fun t2 z2 q => ?_)
      cases q
      obtain ⟨r1, r2⟩ := h _ _ rfl
      refine ⟨r1, fun r3 => ?_⟩
      rcases r2 r3 with r | ⟨g, cap, c, u1, u2, u3⟩
      · exact .inl r
      · exact .inr ⟨g, cap, c, u1, h2.trans u2, u3⟩
  case ptr n o => obtain ⟨g, rfl, hg⟩ := h.ptr_inv; exact .ptr (hT.b _ _ hg)
  case fn f cs =>
    obtain ⟨vs, rfl, hl, he⟩ := h.fn_inv
    refine .fn _ _ _ (by simpa using hl) (fun k q1 q2 => ?_)
    rw [List.getElem_map]
    have q3 : k < cs.length := by simpa using q1
    exact renP_rel hT (hx _ (List.getElem_mem _)) (he k q3 q2)
  case sl σ sz xs =>
    cases σ with
    | none =>
      rcases hn with hn | hn
      · cases h with | base h => exact .base (h.mono fun g o q1 q2 => ⟨fun q => q1 ((hn g).1 q), q2⟩)
      · exact hn.elim
    | some k =>
      cases h with
      | base h => cases h
      | @own _ top _ _ _ hs h =>
        obtain ⟨h1, h2⟩ := hT.s _ _ _ hs
        refine .own h1 ?_
        rcases h with h | ⟨g, off, cap, c, e, fr, us, ev, hg, hcap, hmax, hsz, hlen, hus, h1, hel, hown⟩
        · exact .inl h
        · refine .inr ⟨g, off, cap, c, e, fr, us, ev, hg, hcap, hmax, hsz, hlen, hus, h1, fun i q1 q2 => ?_, ?_⟩
          · rcases hn with hn | hn
            · exact (hel i q1 q2).mono fun g o q1 q2 => ⟨fun q => q1 ((hn g).1 q), q2⟩
            · have hm : (flat xs)[i] ∈ flat xs := List.getElem_mem _
              obtain ⟨y, hy, hc⟩ := List.mem_flatMap.1 hm
              exact pure1_rel (List.all_eq_true.1 (hn.2 y hy) _ hc) (hel i q1 q2)
          · rcases hown with ⟨q1, q2⟩ | ⟨q1, q2⟩
            · exact .inl ⟨h2.trans q1, q2⟩
            · rcases hn with hn | hn
              · exact .inr ⟨fun q => q1 ((hn g).1 q), q2⟩
              · have e2 := hn.1
                rw [hs] at e2
                have : top = xs.length := by injection e2 with e2; injection e2
                have := (q2 rfl).2
                omega
      | imm hs h => obtain ⟨t, s, e⟩ := hT.own _ _ hs; cases e
      | dead hs h => obtain ⟨t, s, e⟩ := hT.own _ _ hs; cases e

theorem ren1s_rel (hT : Turn T S γ' γ2 B d) {xs : List V} {vs : List Value} (hn : (∀ g, γ2.O g ↔ γ'.O g) ∨ nrs T xs) (hx : xs.all V.okR1 = true) (h : CellsRel T γ' w xs vs) : CellsRel S γ2 w (xs.map (V.ren1 B d)) vs := by
  refine ⟨by simpa using h.1, fun k hk hk' => ?_⟩
  rw [List.getElem_map]
  have hk2 : k < xs.length := by simpa using hk
  exact ren1_rel hT (or_map hn id fun q => nrs_mem q _ (List.getElem_mem _)) (List.all_eq_true.1 hx _ (List.getElem_mem _)) (h.2 k hk2 hk')

theorem renA_rel (hT : Turn T S γ' γ2 B d) {x : V} {v : Value} (hn : (∀ g, γ2.O g ↔ γ'.O g) ∨ x.nrA T) (hx : x.okRA = true) (h : VRel T γ' w x v) : VRel S γ2 w (x.renA B d) v := by
  cases x
  case agg cs =>
    obtain ⟨vs, rfl, hl, he⟩ := h.agg_inv
    obtain ⟨q1, q2⟩ := ren1s_rel hT hn hx ⟨hl, he⟩
    exact .agg _ _ q1 q2
  all_goals exact ren1_rel (T := T) hT (by exact hn) (by exact hx) h

theorem ren_rel (hT : Turn T S γ' γ2 B d) {x : V} {v : Value} (hn : (∀ g, γ2.O g ↔ γ'.O g) ∨ x.nr T) (hx : x.okR = true) (h : VRel T γ' w x v) : VRel S γ2 w (x.ren B d) v := by
  cases x
  case tup cs =>
    obtain ⟨vs, rfl, hl, he⟩ := h.tup_inv
    refine .tup _ _ (by simpa using hl) (fun k hk hk' => ?_)
    rw [List.getElem_map]
    have hk2 : k < cs.length := by simpa using hk
    exact renA_rel hT (or_map hn id fun q => nrAs_mem q _ (List.getElem_mem _)) (List.all_eq_true.1 hx _ (List.getElem_mem _)) (he k hk2 hk')
  all_goals exact renA_rel (T := T) hT (by exact hn) (by exact hx) h
end

theorem lookS_rsS (d : Nat) (S' : Stats) (k : Nat) : ∀ (S : Stats), (∀ x ∈ S, x.1 < 16) → lookS (rsS d S ++ S') (16 * d + k) = if (S.any fun x => x.1 == k) then lookS S k else lookS S' (16 * d + k)
  | [], _ => by simp [rsS]
  | (j, x) :: r, h => by
    have ih := lookS_rsS d S' k r (fun y hy => h y (List.mem_cons_of_mem _ hy))
    simp only [rsS, List.cons_append, lookS, List.any_cons]
    by_cases e : k = j
    · subst e; simp
    · have : ¬ (16 * d + k = 16 * d + j) := by omega
      rw [if_neg this, ih]
      have e2 : (j == k) = false := by simp; omega
      simp only [e2, Bool.false_or, if_neg e]

theorem lookS_rsS_other (d : Nat) (S' : Stats) (σ : Nat) : ∀ (S : Stats), (∀ x ∈ S, 16 * d + x.1 ≠ σ) → lookS (rsS d S ++ S') σ = lookS S' σ
  | [], _ => by simp [rsS]
  | (j, x) :: r, h => by
    have ih := lookS_rsS_other d S' σ r (fun y hy => h y (List.mem_cons_of_mem _ hy))
    simp only [rsS, List.cons_append, lookS]
    rw [if_neg (fun e => h (j, x) List.mem_cons_self e.symm), ih]

theorem freshAll_mem {d : Nat} {S : Stats} : ∀ {T : Stats}, freshAll d S T → ∀ x ∈ T, x.1 < 16 ∧ lookS S (16 * d + x.1) = none
  | [], _, x, h => by simp at h
  | (j, y) :: r, h, x, hx => by
    rcases List.mem_cons.1 hx with rfl | hx
    · exact ⟨h.1, h.2.1⟩
    · exact freshAll_mem h.2.2 x hx

theorem lookS_mem {S : Stats} {k : Nat} {x : Stat} (h : lookS S k = some x) : ∃ y ∈ S, y.1 = k := by
  induction S with
  | nil => simp [lookS] at h
  | cons y r ih =>
    obtain ⟨j, z⟩ := y
    simp only [lookS] at h
    by_cases e : k = j
    · exact ⟨(j, z), List.mem_cons_self, e.symm⟩
    · rw [if_neg e] at h
      obtain ⟨y, hy, e2⟩ := ih h
      exact ⟨y, List.mem_cons_of_mem _ hy, e2⟩

theorem cellsStat_own : ∀ {cs : List V} {k : Nat} {x : Stat}, lookS (cellsStat cs) k = some x → ∃ t s, x = .own t s
  | [], k, x, h => by simp [cellsStat, lookS] at h
  | c :: r, k, x, h => by
    simp only [cellsStat] at h
    unfold cellStat at h
    split at h
    · rename_i j sz xs
      simp only [List.cons_append, List.nil_append, lookS] at h
      by_cases e : k = j
      · rw [if_pos e] at h; cases h; exact ⟨_, _, rfl⟩
      · rw [if_neg e] at h; exact cellsStat_own h
    · rename_i j l
      simp only [List.cons_append, List.nil_append, lookS] at h
      by_cases e : k = j
      · rw [if_pos e] at h; cases h; exact ⟨_, _, rfl⟩
      · rw [if_neg e] at h; exact cellsStat_own h
    · exact cellsStat_own (by simpa using h)

theorem lookS_append (S T : Stats) (k : Nat) : lookS (S ++ T) k = if (S.any fun x => x.1 == k) then lookS S k else lookS T k := by
  induction S with
  | nil => simp
  | cons y r ih =>
    obtain ⟨j, x⟩ := y
    simp only [List.cons_append, lookS, List.any_cons]
    by_cases e : k = j
    · subst e; simp
    · have e2 : (j == k) = false := by simp; omega
      simp only [e2, Bool.false_or, if_neg e, ih]

theorem compsStat_own : ∀ {cs : List V} {k : Nat} {x : Stat}, lookS (compsStat cs) k = some x → ∃ t s, x = .own t s
  | [], k, x, h => by simp [compsStat, lookS] at h
  | c :: r, k, x, h => by
    simp only [compsStat] at h
    rw [lookS_append] at h
    split at h
    · exact cellsStat_own h
    · exact compsStat_own h

theorem boxesStat_own : ∀ {bs : List (List V)} {k : Nat} {x : Stat}, lookS (boxesStat bs) k = some x → ∃ t s, x = .own t s
  | [], k, x, h => by simp [boxesStat, lookS] at h
  | c :: r, k, x, h => by
    simp only [boxesStat] at h
    rw [lookS_append] at h
    split at h
    · exact cellsStat_own h
    · exact boxesStat_own h

theorem resStat_own {R : V} {bo : List (List V)} {k : Nat} {x : Stat} (h : lookS (resStat R bo) k = some x) : ∃ t s, x = .own t s := by
  unfold resStat at h
  rw [lookS_append] at h
  split at h
  · exact compsStat_own h
  · exact boxesStat_own h

theorem lookS_deadM {S : Stats} {σ : Nat} : ∀ {M : Mp}, lookS (deadM M ++ S) σ = match newM M σ with
    | some _ => some .dead
    | none => lookS S σ
  | [] => by simp [deadM, newM]
  | (j, some τ, x) :: r => by
    have ih := lookS_deadM (S := S) (σ := σ) (M := r)
    by_cases e : σ = τ
    · subst e; simp [deadM, newM, lookS]
    · have : ¬ (τ = σ) := Ne.symm e
      simpa [deadM, newM, lookS, e, this] using ih
  | (j, none, x) :: r => by
    have ih := lookS_deadM (S := S) (σ := σ) (M := r)
    simpa [deadM, newM] using ih

/-- All that a call's state bears of stamps: what is handed over as it is read by the call. -/
def renBoxes (B : Bm) (d : Nat) (bo : List (Nat × List V)) : List (Nat × List V) := bo.map fun (b, cs) => (renN B b, cs.map (V.ren1 B d))

def hasN (B : Bm) : List (Nat × List V) → Prop
  | [] => True
  | (b, _) :: r => (lookN B b).isSome = true ∧ hasN B r

theorem hasN_look {B : Bm} : ∀ {bo : List (Nat × List V)}, hasN B bo → ∀ {b : Nat}, (lookB bo b).isSome = true → (lookN B b).isSome = true
  | [], _, b, h => by simp [lookB] at h
  | (b', cs) :: r, ⟨h1, h2⟩, b, h => by
    simp only [lookB] at h
    by_cases e : b = b'
    · rw [e]; exact h1
    · rw [if_neg e] at h; exact hasN_look h2 h

theorem lookB_ren {B : Bm} (hB : okN B) {d : Nat} {S : List (Nat × List V)} : ∀ {bo : List (Nat × List V)}, hasN B bo → ∀ {b : Nat} {cs : List V}, lookB (renBoxes B d bo ++ S) b = some cs →
    (∃ n ds, oldN B b = some n ∧ lookB bo n = some ds ∧ cs = ds.map (V.ren1 B d)) ∨ ((∀ n, oldN B b = some n → lookB bo n = none) ∧ lookB S b = some cs)
  | [], _, b, cs, h => .inr ⟨fun n _ => rfl, h⟩
  | (n, ds) :: r, ⟨h1, h2⟩, b, cs, h => by
    obtain ⟨o, ho⟩ := Option.isSome_iff_exists.1 h1
    simp only [renBoxes, List.map_cons, List.cons_append, lookB, renN, ho, Option.getD_some] at h
    by_cases e : b = o
    · rw [if_pos e] at h
      refine .inl ⟨n, ds, by rw [e]; exact lookN_old hB ho, by simp [lookB], (Option.some.inj h).symm⟩
    · rw [if_neg e] at h
      have hne : ∀ m, oldN B b = some m → m ≠ n := fun m hm q => by
        have := oldN_look hB hm
        rw [q, ho] at this
        exact e (Option.some.inj this).symm
      rcases lookB_ren hB h2 h with ⟨m, es, q1, q2, q3⟩ | ⟨q1, q2⟩
      · exact .inl ⟨m, es, q1, by simp only [lookB]; rw [if_neg (hne m q1)]; exact q2, q3⟩
      · exact .inr ⟨fun m hm => by simp only [lookB]; rw [if_neg (hne m hm)]; exact q1 m hm, q2⟩

theorem lookB_ren_some {B : Bm} {d : Nat} {S : List (Nat × List V)} : ∀ {bo : List (Nat × List V)} {b : Nat}, (∃ n, lookN B n = some b ∧ (lookB bo n).isSome = true) ∨ (lookB S b).isSome = true → (lookB (renBoxes B d bo ++ S) b).isSome = true
  | [], b, h => by
    rcases h with ⟨n, _, h⟩ | h
    · simp [lookB] at h
    · exact h
  | (n, ds) :: r, b, h => by
    simp only [renBoxes, List.map_cons, List.cons_append, lookB]
    by_cases e : b = renN B n
    · rw [if_pos e]; rfl
    · rw [if_neg e]
      refine lookB_ren_some (bo := r) ?_
      rcases h with ⟨m, q1, q2⟩ | h
      · simp only [lookB] at q2
        by_cases e2 : m = n
        · subst e2; exact absurd (by simp [renN, q1]) e
        · rw [if_neg e2] at q2; exact .inl ⟨m, q1, q2⟩
      · exact .inr h

/-- A new variable that a call hands back bears the slot's number. -/
def withNew (B : Bm) (d : Nat) : Option Nat → Bm
  | none => B
  | some n => (n, d) :: B
end

end Go.Proofs.YtnhhcfbigjpfeaaDoor
