/-
  A drawn statement in the abstract machine: its operations in the order of the text, and what unordered ones touch kept apart.
-/
import Derived.Test.YtnhhcfbigjpfeaaDoorQ13
namespace Go.Proofs.YtnhhcfbigjpfeaaDoor
set_option linter.all false

section

/-- What a step looked at and what it changed. -/
structure Rec where
  rb : List Nat := []
  rs : List Nat := []
  wb : List Nat := []
  ws : List Nat := []

def disjB : List Nat → List Nat → Prop
  | [], _ => True
  | x :: r, l => x ∉ l ∧ disjB r l

theorem disjB_spec : ∀ {a b : List Nat}, disjB a b → disj a b
  | [], _, _, x, hx => by simp at hx
  | y :: r, b, h, x, hx => by
    rcases List.mem_cons.1 hx with rfl | hx
    · exact h.1
    · exact disjB_spec h.2 x hx

def Rec.indep (x y : Rec) : Prop :=
  disjB x.wb y.rb ∧ disjB y.wb x.rb ∧ disjB x.wb y.wb ∧ disjB x.ws y.rs ∧ disjB y.ws x.rs ∧ disjB x.ws y.ws

def lookR (l : List (Nat × Rec)) (t : Nat) : Option Rec :=
  match l with
  | [] => none
  | (k, v) :: r => if t = k then some v else lookR r t

def indepAll : List Nat → List (Nat × Rec) → Rec → Prop
  | [], _, _ => True
  | k :: r, log, rc => (match lookR log k with
      | some x => x.indep rc
      | none => True) ∧ indepAll r log rc

theorem indepAll_spec {log : List (Nat × Rec)} {rc : Rec} : ∀ {l : List Nat}, indepAll l log rc → ∀ k ∈ l, ∀ x, lookR log k = some x → x.indep rc
  | y :: r, h, k, hk, x, hx => by
    rcases List.mem_cons.1 hk with rfl | hk
    · have := h.1
      rw [hx] at this
      exact this
    · exact indepAll_spec h.2 k hk x hx

def Item.saw (x : Item) : Rec := ⟨x.rb, x.rs, x.δ.nb.map (·.1), x.δ.ns.map (·.1)⟩

/-- What a store into an element asks in a statement of more than one order, and what follows. -/
def eldAt (st : St) (op : AO) (k : Delta → Rec → Prop) : Prop :=
  ∃ (m i j b l s : Nat) (y x : AX) (σ sz : Nat) (xs cs0 : List V), op = .store m y x ∧ st.val y = .elp (.sl (some σ) sz xs) i j ∧ lookS st.stat σ = some (.own xs.length sz) ∧ i < xs.length ∧ j + m ≤ sz ∧ 0 < m ∧
    (st.val x).okEl = true ∧ (st.val x).cells.length = m ∧ (st.val x).stamps = [] ∧ lookB st.box b = some cs0 ∧ cs0[l]? = some (.sl (some σ) sz xs) ∧ lookS st.stat s = none ∧
    k { val := .undef, nb := [(b, cs0.set l (.sl (some s) sz (setEl i j (st.val x).er.cells xs)))], ns := [(σ, some .dead), (s, some (.own xs.length sz))] } ⟨[b], [σ, s], [b], [σ, s]⟩

def adrun (P : Program) (o : AOp) (st : St) (k : Delta → Rec → Prop) : Prop :=
  match o.op with
  | .call f xs => ∃ δ rb rs, CallTo P f (xs.map st.val) st o.dst.num δ rb rs ∧ k δ ⟨rb, rs, δ.nb.map (·.1), δ.ns.map (·.1)⟩
  | .callv F xs => match st.val F with
    | .fn f caps => Named P f ∧ ∃ δ rb rs, CallTo P f (xs.map st.val ++ caps) st o.dst.num δ rb rs ∧ k δ ⟨rb, rs, δ.nb.map (·.1), δ.ns.map (·.1)⟩
    | _ => False
  | op => match astep st o.dst.num op with
    | some (p, δ) => p ∧ k δ ⟨(foot st o.dst.num op).1, (foot st o.dst.num op).2, δ.nb.map (·.1), δ.ns.map (·.1)⟩
    | none => eldAt st op k

def adr (P : Program) : List AOp → List (List Nat) → Nat → List (Nat × Rec) → St → (St → Prop) → Prop
  | [], _, _, _, st, Q => Q st
  | o :: r, un, i, log, st, Q => match o.guard with
    | none => adrun P o st (fun δ rc => indepAll (un.headD []) log rc ∧ adr P r un.tail (i + 1) ((i, rc) :: log) (δ.apply st o.dst) Q)
    | some (x, want) => match st.val x with
      | .bool b => if b = want then adrun P o st (fun δ rc => indepAll (un.headD []) log rc ∧ adr P r un.tail (i + 1) ((i, rc) :: log) (δ.apply st o.dst) Q)
        else adr P r un.tail (i + 1) ((i, {}) :: log) (st.put o.dst (.tup [])) Q
      | .tup [] => adr P r un.tail (i + 1) ((i, {}) :: log) (st.put o.dst (.tup [])) Q
      | _ => False

theorem adrun_step {P : Program} {o : AOp} {st : St} {k : Delta → Rec → Prop} (hon : o.on st = some true) (h : adrun P o st k) : ∃ δ rb rs, AStepF P st o δ rb rs ∧ k δ ⟨rb, rs, δ.nb.map (·.1), δ.ns.map (·.1)⟩ := by
  unfold adrun at h
  split at h
  · obtain ⟨δ, rb, rs, h1, h2⟩ := h
    exact ⟨_, _, _, .call hon ‹_› h1, h2⟩
  · split at h
    · obtain ⟨hn, δ, rb, rs, h1, h2⟩ := h
      exact ⟨_, _, _, .callv hon ‹_› ‹_› hn h1, h2⟩
    · exact h.elim
  · split at h
    · exact ⟨_, _, _, .op hon ‹_› h.1, h.2⟩
    · obtain ⟨m, i, j, b, l, s, y, x, σ, sz, xs, cs0, h1, h2, h3, h4, h5, h6, h7, h8, h9, h10, h11, h12, h13⟩ := h
      exact ⟨_, _, _, .eld hon h1 h2 h3 h4 h5 h6 h7 h8 h9 h10 h11 h12, h13⟩

theorem disjB_nil : ∀ {a : List Nat}, disjB a []
  | [] => trivial
  | x :: r => ⟨by simp, disjB_nil⟩

theorem indep_empty {x : Rec} : x.indep {} := ⟨disjB_nil, trivial, disjB_nil, disjB_nil, trivial, disjB_nil⟩

theorem indepAll_empty {log : List (Nat × Rec)} : ∀ {l : List Nat}, indepAll l log {}
  | [] => trivial
  | k :: r => ⟨by split; exact indep_empty; trivial, indepAll_empty⟩

theorem adr_step {P : Program} {o : AOp} {r : List AOp} {un : List (List Nat)} {i : Nat} {log : List (Nat × Rec)} {st : St} {Q : St → Prop} (h : adr P (o :: r) un i log st Q) :
    ∃ δ rb rs, AStepF P st o δ rb rs ∧ indepAll (un.headD []) log ⟨rb, rs, δ.nb.map (·.1), δ.ns.map (·.1)⟩ ∧ adr P r un.tail (i + 1) ((i, ⟨rb, rs, δ.nb.map (·.1), δ.ns.map (·.1)⟩) :: log) (δ.apply st o.dst) Q := by
  simp only [adr] at h
  split at h
  · exact adrun_step (by simp [AOp.on, *]) h
  · rename_i x want hg
    split at h
    · rename_i b hb
      by_cases e : b = want
      · rw [if_pos e] at h
        exact adrun_step (by simp [AOp.on, hg, hb, e]) h
      · rw [if_neg e] at h
        exact ⟨{ val := .tup [] }, _, _, .skip (by simp [AOp.on, hg, hb, e]), indepAll_empty, h⟩
    · rename_i hb
      exact ⟨{ val := .tup [] }, _, _, .skip (by simp [AOp.on, hg, hb]), indepAll_empty, h⟩
    · exact h.elim

theorem adr_items {P : Program} {Q : St → Prop} : ∀ (l : List AOp) (un : List (List Nat)) (i : Nat) (log : List (Nat × Rec)) (st : St), (∀ k x, lookR log k = some x → k < i) → adr P l un i log st Q →
    ∃ its stf, Goes P st its stf ∧ Q stf ∧ its.map (·.o) = l ∧ its.map (·.i) = List.range' i l.length ∧
      (∀ x ∈ its, ∀ k ∈ un.getD (x.i - i) [], ∀ rc, lookR log k = some rc → rc.indep x.saw) ∧ its.Pairwise (fun y x => y.i ∈ un.getD (x.i - i) [] → y.saw.indep x.saw)
  | [], un, i, log, st, hlog, h => ⟨[], st, .nil (.refl st), h, rfl, rfl, fun x hx => by simp at hx, .nil⟩
  | o :: r, un, i, log, st, hlog, h => by
    obtain ⟨δ, rb, rs, h1, h2, h3⟩ := adr_step h
    obtain ⟨its, stf, g1, g2, g3, g4, g5, g6⟩ := adr_items r un.tail (i + 1) _ _ (fun k x hk => by
      simp only [lookR] at hk
      by_cases e : k = i
      · omega
      · rw [if_neg e] at hk
        have := hlog k x hk
        omega) h3
    have hun : ∀ x ∈ its, un.getD (x.i - i) [] = un.tail.getD (x.i - (i + 1)) [] ∧ i < x.i := fun x hx => by
      have : x.i ∈ its.map (·.i) := List.mem_map.2 ⟨x, hx, rfl⟩
      rw [g4] at this
      have hlt : i + 1 ≤ x.i := by
        have := List.mem_range'_1.1 this
        omega
      refine ⟨?_, by omega⟩
      cases un with
      | nil => simp
      | cons u us =>
        rw [show x.i - i = (x.i - (i + 1)) + 1 from by omega]
        simp
    refine ⟨⟨i, o, δ, rb, rs⟩ :: its, stf, .cons h1 g1, g2, by simp [g3], by simp [g4, List.range'_succ], fun x hx k hk rc hrc => ?_, ?_⟩
    · rcases List.mem_cons.1 hx with rfl | hx
      · simp only [Nat.sub_self] at hk
        refine indepAll_spec h2 k ?_ rc hrc
        cases un <;> simpa using hk
      · refine g5 x hx k (by rw [← (hun x hx).1]; exact hk) rc ?_
        simp only [lookR]
        rw [if_neg (by have := hlog k rc hrc; omega)]
        exact hrc
    · refine List.pairwise_cons.2 ⟨fun x hx hk => ?_, ?_⟩
      · exact g5 x hx i (by rw [← (hun x hx).1]; exact hk) _ (by simp [lookR, Item.saw])
      · refine List.Pairwise.imp_of_mem (fun {y x} hy hx hyx hk => hyx ?_) g6
        rw [← (hun x hx).1]; exact hk

theorem Goes.steps {P : Program} {st st' : St} {l : List Item} (h : Goes P st l st') : ∀ x ∈ l, ∃ s, AStepF P s x.o x.δ x.rb x.rs := by
  induction h with
  | nil _ => intro x hx; simp at hx
  | cons h hr ih =>
    intro x hx
    rcases List.mem_cons.1 hx with rfl | hx
    · exact ⟨_, h⟩
    · exact ih x hx

/-! ## What is checked once for all -/

def AO.quiet : AO → Bool
  | .mv _ | .pick .. | .build .. | .nilc _ | .bin .. | .beq .. | .eqs .. | .un .. | .conv .. | .cutStr .. | .faddr .. | .field .. | .elA .. | .idxStr .. | .idxArr .. | .extract .. | .lenStr _ | .lenArr _ | .min .. | .max .. | .mkfn .. => true
  | _ => false

theorem quiet_spec {P : Program} {st : St} {o : AOp} {δ : Delta} {rb rs : List Nat} (h : AStepF P st o δ rb rs) (hq : o.op.quiet = true) : δ.nb = [] ∧ δ.ns = [] ∧ rb = [] ∧ rs = [] := by
  cases h with
  | skip h => exact ⟨rfl, rfl, rfl, rfl⟩
  | @op p δ h hδ hp =>
    obtain ⟨dst, op, g⟩ := o
    simp only at hq hδ ⊢
    refine ⟨?_, ?_, ?_, ?_⟩
    · cases op <;> simp only [AO.quiet, Bool.false_eq_true] at hq <;> simp only [astep] at hδ <;> (repeat' split at hδ) <;> first | (cases hδ; done) | (simp only [Option.some.injEq, Prod.mk.injEq] at hδ; rw [← hδ.2])
    · cases op <;> simp only [AO.quiet, Bool.false_eq_true] at hq <;> simp only [astep] at hδ <;> (repeat' split at hδ) <;> first | (cases hδ; done) | (simp only [Option.some.injEq, Prod.mk.injEq] at hδ; rw [← hδ.2])
    · cases op <;> simp only [AO.quiet, Bool.false_eq_true] at hq <;> rfl
    · cases op <;> simp only [AO.quiet, Bool.false_eq_true] at hq <;> rfl
  | call h ho => rw [ho] at hq; simp [AO.quiet] at hq
  | callv h ho => rw [ho] at hq; simp [AO.quiet] at hq
  | eld h ho => rw [ho] at hq; simp [AO.quiet] at hq

def AD.hits : AD → AX → Bool
  | .l a, .l b => a == b
  | .g a, .g b => a == b
  | _, _ => false

theorem hits_spec {d : AD} {x : AX} (h : d.hits x = false) : d.ax ≠ some x := by
  cases d <;> cases x <;> simp [AD.hits, AD.ax] at h ⊢ <;> exact h

def apartB (x y : AOp) : Bool :=
  (y.looks.all fun a => !x.dst.hits a) && (x.looks.all fun a => !y.dst.hits a) && match y.dst.ax with
    | none => true
    | some a => !x.dst.hits a

theorem apartB_spec {x y : AOp} (h : apartB x y = true) : Apart x y := by
  simp only [apartB, Bool.and_eq_true, List.all_eq_true, Bool.not_eq_true'] at h
  obtain ⟨⟨h1, h2⟩, h3⟩ := h
  refine ⟨fun d hd hm => hits_spec (h1 d hm) hd, fun d hd hm => hits_spec (h2 d hm) hd, fun d hd hy => ?_⟩
  rw [hy] at h3
  simp only at h3
  exact hits_spec (by simpa using h3) hd

/-- Each pair of operations is ordered, or far apart. -/
def pairsOk (A : List Nat) (un : List (List Nat)) : List AOp → Nat → List (Nat × AOp) → Bool
  | [], _, _ => true
  | o :: r, i, seen => (seen.all fun (j, y) => (A.getD i 0).testBit j || (apartB y o && (y.op.quiet || o.op.quiet || (un.getD i []).contains j))) && pairsOk A un r (i + 1) ((i, o) :: seen)

theorem pairsOk_spec {A : List Nat} {un : List (List Nat)} : ∀ {l : List AOp} {i : Nat} {seen : List (Nat × AOp)}, pairsOk A un l i seen = true → ∀ {its : List Item}, its.map (·.o) = l → its.map (·.i) = List.range' i l.length →
    (∀ x ∈ its, ∀ j y, (j, y) ∈ seen → (A.getD x.i 0).testBit j = true ∨ (Apart y x.o ∧ (y.op.quiet = true ∨ x.o.op.quiet = true ∨ j ∈ un.getD x.i []))) ∧
    its.Pairwise (fun y x => (A.getD x.i 0).testBit y.i = true ∨ (Apart y.o x.o ∧ (y.o.op.quiet = true ∨ x.o.op.quiet = true ∨ y.i ∈ un.getD x.i [])))
  | [], i, seen, h, its, h1, h2 => by
    have : its = [] := by simpa using h1
    subst this
    exact ⟨fun x hx => by simp at hx, .nil⟩
  | o :: r, i, seen, h, its, h1, h2 => by
    cases its with
    | nil => simp at h1
    | cons x its =>
      simp only [List.map_cons, List.cons.injEq] at h1
      simp only [List.map_cons, List.length_cons, List.range'_succ, List.cons.injEq] at h2
      obtain ⟨rfl, h1⟩ := h1
      obtain ⟨rfl, h2⟩ := h2
      simp only [pairsOk, Bool.and_eq_true, List.all_eq_true, Bool.or_eq_true, List.contains_iff_mem] at h
      obtain ⟨g1, g2⟩ := pairsOk_spec h.2 h1 h2
      refine ⟨fun z hz j y hy => ?_, List.pairwise_cons.2 ⟨fun z hz => g1 z hz x.i x.o List.mem_cons_self, g2⟩⟩
      rcases List.mem_cons.1 hz with rfl | hz
      · rcases h.1 (j, y) hy with q | ⟨q1, q2⟩
        · exact .inl q
        · refine .inr ⟨apartB_spec q1, ?_⟩
          rcases q2 with (q | q) | q
          · exact .inl q
          · exact .inr (.inl q)
          · exact .inr (.inr q)
      · exact g1 z hz j y (List.mem_cons_of_mem _ hy)

def unOf (A : List Nat) : List AOp → Nat → List (Nat × AOp) → List (List Nat)
  | [], _, _ => []
  | o :: r, i, seen => (if o.op.quiet then [] else (seen.filter fun (j, y) => !(A.getD i 0).testBit j && !y.op.quiet).map (·.1)) :: unOf A r (i + 1) ((i, o) :: seen)

section
variable {P : Program} {L : Nat → Bool} {n : Nat} {K : Ctx}

theorem SRel.eqv {st st' : St} {γ : Ghost} {a : Act} {w : World} (h : SRel L n K st γ a w) (he : Eqv st st') : SRel L n K st' γ a w := by
  have hst : ∀ {x : V} {v : Value}, VRel st.stat γ w x v → VRel st'.stat γ w x v := fun h => h.evo ⟨fun g o h1 h2 => ⟨h1, h2⟩, fun d g h => h, fun g t h => h, fun σ q => by rw [he.s]; exact q, fun σ q => .inl (by rw [he.s]; exact q),
    fun σ top sz q => .inr (.inr ⟨top, by rw [he.s]; exact q, Nat.le_refl _, fun g c e fr h1 h2 => .inl ⟨h1, c, h2, rfl, fun k _ => rfl⟩⟩)⟩
  refine ⟨⟨fun d cs hl => ?_, ⟨fun d g hd => ?_, h.h.bxd.2⟩, fun σ top sz q => ?_, h.h.ow, h.h.av, h.h.frame⟩, h.e.defers, h.e.size, fun t => ?_⟩
  · rw [he.b] at hl
    obtain ⟨g, c, e, h1, h2, h3, h4, h5⟩ := h.h.box d cs hl
    exact ⟨g, c, e, h1, h2, h3, h4, fun k q1 q2 => hst (h5 k q1 q2)⟩
  · rw [he.b]; exact h.h.bxd.1 d g hd
  · rw [he.s] at q; exact h.h.sp σ top sz q
  · have := hst (h.e.slot t)
    by_cases e : L t = true
    · simp only [e, if_true, he.l] at this ⊢; exact this
    · simp only [e, he.e] at this ⊢; exact this

theorem VRel.world {S : Stats} {γ : Ghost} {w w' : World} (hw : w'.heap = w.heap) {x : V} {v : Value} (h : VRel S γ w x v) : VRel S γ w' x v :=
  h.evo ⟨fun g o h1 h2 => ⟨h1, by rw [hw]; exact h2⟩, fun d g h => h, fun g t ⟨c, fr, q⟩ => ⟨c, fr, by rw [hw]; exact q⟩, fun σ q => q, fun σ q => .inl q,
    fun σ top sz q => .inr (.inr ⟨top, q, Nat.le_refl _, fun g c e fr h1 h2 => .inl ⟨h1, c, by rw [hw]; exact h2, rfl, fun k _ => rfl⟩⟩)⟩

/-- The number of draws is of no weight. -/
theorem SRel.draw {st : St} {γ : Ghost} {a : Act} {w w' : World} (h : SRel L n K st γ a w) (hw : w'.heap = w.heap) (h2 : w'.os = w.os) (h3 : w'.tape = w.tape) (h4 : w'.output = w.output) : SRel L n K st γ a w' := by
  refine ⟨⟨fun d cs hl => ?_, h.h.bxd, fun σ top sz q => ?_, ?_, ?_, ?_⟩, h.e.defers, h.e.size, fun t => (h.e.slot t).world hw⟩
  · obtain ⟨g, c, e, h1, h2, h3, h4, h5⟩ := h.h.box d cs hl
    exact ⟨g, c, e, h1, h2, by rw [hw]; exact h3, h4, fun k q1 q2 => (h5 k q1 q2).world hw⟩
  · rw [hw]; exact h.h.sp σ top sz q
  · rw [hw]; exact h.h.ow
  · rw [hw]; exact h.h.av
  · exact ⟨h2.trans h.h.frame.os, h3.trans h.h.frame.tape, h4.trans h.h.frame.output, by rw [hw]; exact h.h.frame.size, by rw [hw]; exact h.h.frame.same, fun g t q => by
      obtain ⟨c, fr, q⟩ := h.h.frame.typ g t q
      exact ⟨c, fr, by rw [hw]; exact q⟩⟩

/-- The last operations, each of which follows all that lie ahead of it. -/
def allBelow (A : List Nat) (k : Nat) : Bool := (List.range k).all fun j => (A.getD k 0).testBit j

def cutAt (A : List Nat) : Nat → Nat
  | 0 => 0
  | k + 1 => if allBelow A k then cutAt A k else k + 1

theorem cutAt_spec {A : List Nat} : ∀ {k : Nat}, cutAt A k ≤ k ∧ ∀ i, cutAt A k ≤ i → i < k → ∀ j < i, (A.getD i 0).testBit j = true
  | 0 => ⟨Nat.le_refl _, fun i _ h => by omega⟩
  | k + 1 => by
    obtain ⟨h1, h2⟩ := cutAt_spec (A := A) (k := k)
    unfold cutAt
    by_cases e : allBelow A k = true
    · rw [if_pos e]
      refine ⟨by omega, fun i q1 q2 j hj => ?_⟩
      by_cases q3 : i < k
      · exact h2 i q1 q3 j hj
      · obtain rfl : i = k := by omega
        exact List.all_eq_true.1 e j (by simpa using hj)
    · rw [if_neg e]
      exact ⟨Nat.le_refl _, fun i q1 q2 => by omega⟩

theorem drawn_wp (hK : K.ok) {id : Nat} {ops : Array Oper} {l : List AOp} {un : List (List Nat)} {A : List Nat} (hm : P.follows .mixedOrders = true) (hs : stripOps P L n ops ops.toList = some l)
    (hA : ordOk A ops.toList 0 = true) {m : Nat} (hmc : m = cutAt A l.length) (hp : pairsOk A un (l.take m) 0 [] = true) {Q : Exit → Act → World → Prop} {st : St} {γ : Ghost} {a : Act} {w : World} (hr : SRel L n K st γ a w) {Qa : St → Prop}
    (hq : ∀ st γ a w, SRel L n K st γ a w → Qa st → Q .normal a w) (h : adr P (l.take m) un 0 [] st (fun st' => aops P (l.drop m) st' (fun st'' => Qa { st'' with loc := [] }))) : (Code.region id ops true).wp P Q a w := by
  obtain ⟨h1, h2⟩ := stripOps_get hs
  obtain ⟨hml, hfull⟩ := cutAt_spec (A := A) (k := l.length)
  rw [← hmc] at hml hfull
  obtain ⟨its, stf, g1, g2, g3, g4, g5, g6⟩ := adr_items (l.take m) un 0 [] st (fun k x hk => by simp [lookR] at hk) h
  have hlm : (l.take m).length = m := by simp; omega
  have hlen : its.length = m := by rw [← hlm, ← g3]; simp
  have hsz : ops.size = l.length := by rw [← h1]; simp
  have hix : ∀ k (hk : k < its.length), its[k].i = k := fun k hk => by
    have : (its.map (·.i))[k]? = (List.range' 0 (l.take m).length)[k]? := by rw [g4]
    rw [List.getElem?_map, List.getElem?_eq_getElem hk, List.getElem?_range' (by omega)] at this
    simpa using this
  refine wp_region_any hm ?_
  have key := any_wp hK hA (stf := stf) (K := K) (L := L) (n := n) (Q := Q) (m := m) (r := (l.drop m).length) (fun i q1 q2 => hfull i q1 (by omega)) (fun listed st' γ a w e1 e2 e3 hr he => tail_wp hK hA (Qa := fun st'' => Qa { st'' with loc := [] }) (fun st γ a w hr q => hq _ γ a w hr.unloc q) (l.drop m) m listed (by simp; omega)
    (fun k hk => ?_) (fun i q1 q2 => hfull i q1 (by omega)) e1 e2 e3 (hr.eqv he.symm) g2) m its (Array.replicate ops.size false) (st := st) (γ := γ) (w := { w with drawn := w.drawn + 1 }) (by omega) (by simp) (fun x hx => ?_) (fun i hi => ?_) (fun x hx => ?_) ?_ ?_ ?_ g1 (hr.draw rfl rfl rfl rfl)
  · have : m + (l.drop m).length = ops.size := by simp; omega
    rw [this] at key
    exact key
  · have hk' : m + k < ops.toList.length := by simp at hk; simp; omega
    refine ⟨ops.toList[m + k], ?_, ?_⟩
    · rw [← Array.getElem?_toList, List.getElem?_eq_getElem hk']
    · rw [h2 (m + k) hk' (by simp at hk; omega), List.getElem_drop]
  · obtain ⟨k, hk, rfl⟩ := List.getElem_of_mem hx
    rw [hix k hk]; omega
  · rw [g4, hlm]
    simp [hi]
    omega
  · obtain ⟨k, hk, rfl⟩ := List.getElem_of_mem hx
    have hk' : k < ops.toList.length := by simp; omega
    refine ⟨ops.toList[k], ?_, ?_⟩
    · rw [hix k hk, ← Array.getElem?_toList, List.getElem?_eq_getElem hk']
    · rw [h2 k hk' (by omega)]
      have : (its.map (·.o))[k]? = (l.take m)[k]? := by rw [g3]
      rw [List.getElem?_map, List.getElem?_eq_getElem hk, List.getElem?_eq_getElem (by omega)] at this
      simp at this
      rw [this]
  · have hpw := (pairsOk_spec hp g3 g4).2
    refine List.Pairwise.imp_of_mem (fun {y x} hy hx hb => ?_) (hpw.and g6)
    rcases hb.1 with q | ⟨q1, q2⟩
    · exact .inr q
    · left
      have hd0 : ∀ {l : List Nat}, disj [] l := fun x hx => by simp at hx
      have hd1 : ∀ {l : List Nat}, disj l [] := fun x _ hx => by simp at hx
      rcases q2 with q2 | q2 | q2
      · obtain ⟨st', hst⟩ := g1.steps y hy
        obtain ⟨e1, e2, e3, e4⟩ := quiet_spec hst q2
        exact ⟨q1, by rw [e1]; exact hd0, by rw [e3]; exact hd1, by rw [e1]; exact hd0, by rw [e2]; exact hd0, by rw [e4]; exact hd1, by rw [e2]; exact hd0⟩
      · obtain ⟨st', hst⟩ := g1.steps x hx
        obtain ⟨e1, e2, e3, e4⟩ := quiet_spec hst q2
        exact ⟨q1, by rw [e3]; exact hd1, by rw [e1]; exact hd0, by rw [e1]; exact hd1, by rw [e4]; exact hd1, by rw [e2]; exact hd0, by rw [e2]; exact hd1⟩
      · obtain ⟨i1, i2, i3, i4, i5, i6⟩ := hb.2 (by simpa using q2)
        exact ⟨q1, disjB_spec i1, disjB_spec i2, disjB_spec i3, disjB_spec i4, disjB_spec i5, disjB_spec i6⟩
  · refine List.pairwise_iff_getElem.2 fun i j hi hj hij => ?_
    rw [hix i hi, hix j hj]; exact hij
  · intro j o ho hl e he hb
    exfalso
    have : (Array.replicate ops.size false).getD j false = false := by
      simp only [Array.getD_eq_getD_getElem?, Array.getElem?_replicate]
      split <;> rfl
    rw [this] at hl; cases hl

end
end

end Go.Proofs.YtnhhcfbigjpfeaaDoor
