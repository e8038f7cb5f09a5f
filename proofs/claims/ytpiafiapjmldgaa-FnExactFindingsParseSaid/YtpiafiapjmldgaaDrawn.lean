/-
  A statement whose operations may be carried out in more than one order.
-/
import Derived.Test.YtpiafiapjmldgaaLoc
import Derived.Orders
namespace Go.Proofs.Ytpiafiapjmldgaa
set_option linter.all false

/-- Two states that say the same. -/
structure Eqv (st st' : St) : Prop where
  e : ∀ t, look st'.env t = look st.env t
  l : ∀ t, look st'.loc t = look st.loc t
  b : ∀ b, lookB st'.box b = lookB st.box b
  s : ∀ σ, lookS st'.stat σ = lookS st.stat σ

theorem Eqv.refl (st : St) : Eqv st st := ⟨fun _ => rfl, fun _ => rfl, fun _ => rfl, fun _ => rfl⟩
theorem Eqv.trans {a b c : St} (h : Eqv a b) (k : Eqv b c) : Eqv a c :=
  ⟨fun t => (k.e t).trans (h.e t), fun t => (k.l t).trans (h.l t), fun t => (k.b t).trans (h.b t), fun t => (k.s t).trans (h.s t)⟩
theorem Eqv.symm {a b : St} (h : Eqv a b) : Eqv b a := ⟨fun t => (h.e t).symm, fun t => (h.l t).symm, fun t => (h.b t).symm, fun t => (h.s t).symm⟩

theorem Eqv.val {a b : St} (h : Eqv a b) (x : AX) : b.val x = a.val x := by
  cases x <;> simp only [St.val, h.e, h.l]

theorem look_cons (l : List (Nat × V)) (k t : Nat) (v : V) : look ((k, v) :: l) t = if t = k then v else look l t := rfl

theorem lookB_append (l m : List (Nat × List V)) (t : Nat) : lookB (l ++ m) t = match lookB l t with
    | some c => some c
    | none => lookB m t := by
  induction l with
  | nil => rfl
  | cons x r ih =>
    obtain ⟨k, v⟩ := x
    simp only [List.cons_append, lookB]
    by_cases e : t = k
    · simp [e]
    · simp [e, ih]

theorem lookB_none {l : List (Nat × List V)} {t : Nat} (h : t ∉ l.map (·.1)) : lookB l t = none := by
  induction l with
  | nil => rfl
  | cons x r ih =>
    obtain ⟨k, v⟩ := x
    simp only [List.map_cons, List.mem_cons, not_or] at h
    simp only [lookB, if_neg h.1]
    exact ih h.2

theorem lookB_skip {l m : List (Nat × List V)} {t : Nat} (h : t ∉ l.map (·.1)) : lookB (l ++ m) t = lookB m t := by
  rw [lookB_append, lookB_none h]

theorem lookS_skip {l m : Stats} {t : Nat} (h : t ∉ l.map (·.1)) : lookS (l ++ m) t = lookS m t := by
  induction l with
  | nil => rfl
  | cons x r ih =>
    obtain ⟨k, v⟩ := x
    simp only [List.map_cons, List.mem_cons, not_or] at h
    simp only [List.cons_append, lookS, if_neg h.1]
    exact ih h.2

theorem lookB_hit {l m m' : List (Nat × List V)} {t : Nat} (h : t ∈ l.map (·.1)) : lookB (l ++ m) t = lookB (l ++ m') t := by
  induction l with
  | nil => simp at h
  | cons x r ih =>
    obtain ⟨k, v⟩ := x
    simp only [List.cons_append, lookB]
    by_cases e : t = k
    · simp [e]
    · simp only [if_neg e]
      exact ih (by simpa [e] using h)

theorem lookS_hit {l m m' : Stats} {t : Nat} (h : t ∈ l.map (·.1)) : lookS (l ++ m) t = lookS (l ++ m') t := by
  induction l with
  | nil => simp at h
  | cons x r ih =>
    obtain ⟨k, v⟩ := x
    simp only [List.cons_append, lookS]
    by_cases e : t = k
    · simp [e]
    · simp only [if_neg e]
      exact ih (by simpa [e] using h)

theorem apply_box (δ : Delta) (st : St) (d : AD) : (δ.apply st d).box = δ.nb ++ st.box := by cases d <;> rfl
theorem apply_stat (δ : Delta) (st : St) (d : AD) : (δ.apply st d).stat = δ.ns ++ st.stat := by cases d <;> rfl

theorem apply_val {δ : Delta} {st : St} {d : AD} {x : AX} (h : d.ax ≠ some x) : (δ.apply st d).val x = st.val x := by
  cases d with
  | no => cases x <;> rfl
  | l k =>
    cases x <;> try rfl
    rename_i t
    have : t ≠ k := fun e => h (by rw [e]; rfl)
    simp [Delta.apply, St.put, St.val, look, this]
  | g k =>
    cases x <;> try rfl
    rename_i t
    have : t ≠ k := fun e => h (by rw [e]; rfl)
    simp [Delta.apply, St.put, St.val, look, this]

theorem Eqv.apply {a b : St} (h : Eqv a b) (δ : Delta) (d : AD) : Eqv (δ.apply a d) (δ.apply b d) := by
  have hb : ∀ t, lookB (δ.nb ++ b.box) t = lookB (δ.nb ++ a.box) t := fun t => by rw [lookB_append, lookB_append, h.b]
  have hs : ∀ t, lookS (δ.ns ++ b.stat) t = lookS (δ.ns ++ a.stat) t := fun t => by
    by_cases e : t ∈ δ.ns.map (·.1)
    · exact lookS_hit e
    · rw [lookS_skip e, lookS_skip e, h.s]
  refine ⟨?_, ?_, ?_, ?_⟩
  · cases d <;> intro t <;> simp only [Delta.apply, St.put, look, h.e]
  · cases d <;> intro t <;> simp only [Delta.apply, St.put, look, h.l]
  · simp only [apply_box]; exact hb
  · simp only [apply_stat]; exact hs

/-- One operation, as it was carried out in the order of the text. -/
structure Item where
  i : Nat
  o : AOp
  δ : Delta
  rb : List Nat
  rs : List Nat

def disj (a b : List Nat) : Prop := ∀ x ∈ a, x ∉ b

/-- Slots that do not touch. -/
structure Apart (x y : AOp) : Prop where
  h1 : ∀ d, x.dst.ax = some d → d ∉ y.looks
  h2 : ∀ d, y.dst.ax = some d → d ∉ x.looks
  h3 : ∀ d, x.dst.ax = some d → y.dst.ax ≠ some d

structure Indep (x y : Item) : Prop where
  s : Apart x.o y.o
  b1 : disj (x.δ.nb.map (·.1)) y.rb
  b2 : disj (y.δ.nb.map (·.1)) x.rb
  b3 : disj (x.δ.nb.map (·.1)) (y.δ.nb.map (·.1))
  s1 : disj (x.δ.ns.map (·.1)) y.rs
  s2 : disj (y.δ.ns.map (·.1)) x.rs
  s3 : disj (x.δ.ns.map (·.1)) (y.δ.ns.map (·.1))

inductive Goes (P : Program) : St → List Item → St → Prop
  | nil {st st' : St} (h : Eqv st st') : Goes P st [] st'
  | cons {st st' : St} {x : Item} {r : List Item} (h : AStepF P st x.o x.δ x.rb x.rs) (hr : Goes P (x.δ.apply st x.o.dst) r st') : Goes P st (x :: r) st'

variable {P : Program}

theorem Eqv.step {st st1 : St} (he : Eqv st st1) {o : AOp} {δ : Delta} {rb rs : List Nat} (h : AStepF P st o δ rb rs) : AStepF P st1 o δ rb rs :=
  h.local ⟨fun x _ => he.val x, fun b _ => he.b b, fun σ _ => he.s σ⟩

theorem Goes.eqv {st st1 st' : St} {l : List Item} (he : Eqv st st1) (h : Goes P st l st') : Goes P st1 l st' := by
  induction h generalizing st1 with
  | nil h => exact .nil (he.symm.trans h)
  | cons h hr ih => exact .cons (he.step h) (ih (he.apply _ _))

/-- Looked at before and after a step that does not touch it. -/
theorem agree_apply {st : St} {x : Item} {o : AOp} {rb rs : List Nat} (h1 : ∀ d, x.o.dst.ax = some d → d ∉ o.looks) (h2 : disj (x.δ.nb.map (·.1)) rb) (h3 : disj (x.δ.ns.map (·.1)) rs) :
    Agree st (x.δ.apply st x.o.dst) o.looks rb rs :=
  ⟨fun y hy => apply_val fun e => h1 y e hy, fun b hb => by rw [apply_box, lookB_skip fun e => h2 b e hb], fun σ hs => by rw [apply_stat, lookS_skip fun e => h3 σ e hs]⟩

theorem Agree.symm {st st' : St} {xs : List AX} {rb rs : List Nat} (h : Agree st st' xs rb rs) : Agree st' st xs rb rs :=
  ⟨fun x hx => (h.v x hx).symm, fun x hx => (h.b x hx).symm, fun x hx => (h.s x hx).symm⟩

theorem swap_eqv {st : St} {x y : Item} (h : Indep x y) : Eqv (y.δ.apply (x.δ.apply st x.o.dst) y.o.dst) (x.δ.apply (y.δ.apply st y.o.dst) x.o.dst) := by
  refine ⟨fun t => ?_, fun t => ?_, fun t => ?_, fun t => ?_⟩
  · have h3 := h.s.h3
    cases hx : x.o.dst <;> cases hy : y.o.dst <;> simp only [Delta.apply, St.put, look]
    rw [hx, hy] at h3
    have := h3 _ rfl
    rename_i a b
    have hab : a ≠ b := fun e => this (by rw [e]; rfl)
    by_cases e1 : t = a
    · simp [e1, hab]
    · by_cases e2 : t = b <;> simp [e1, e2, Ne.symm hab]
  · have h3 := h.s.h3
    cases hx : x.o.dst <;> cases hy : y.o.dst <;> simp only [Delta.apply, St.put, look]
    rw [hx, hy] at h3
    have := h3 _ rfl
    rename_i a b
    have hab : a ≠ b := fun e => this (by rw [e]; rfl)
    by_cases e1 : t = a
    · simp [e1, hab]
    · by_cases e2 : t = b <;> simp [e1, e2, Ne.symm hab]
  · simp only [apply_box]
    by_cases e1 : t ∈ x.δ.nb.map (·.1)
    · rw [lookB_hit e1 (m' := st.box), lookB_skip (h.b3 t e1)]
    · rw [lookB_skip e1]
      by_cases e2 : t ∈ y.δ.nb.map (·.1)
      · exact lookB_hit e2
      · rw [lookB_skip e2, lookB_skip e2, lookB_skip e1]
  · simp only [apply_stat]
    by_cases e1 : t ∈ x.δ.ns.map (·.1)
    · rw [lookS_hit e1 (m' := st.stat), lookS_skip (h.s3 t e1)]
    · rw [lookS_skip e1]
      by_cases e2 : t ∈ y.δ.ns.map (·.1)
      · exact lookS_hit e2
      · rw [lookS_skip e2, lookS_skip e2, lookS_skip e1]

theorem Goes.front {st' : St} {x : Item} {l2 : List Item} : ∀ {l1 : List Item} {st : St}, (∀ y ∈ l1, Indep y x) → Goes P st (l1 ++ x :: l2) st' → Goes P st (x :: (l1 ++ l2)) st'
  | [], st, _, h => h
  | y :: r, st, hi, h => by
    cases h with
    | cons hy hr =>
      have hf := Goes.front (fun z hz => hi z (List.mem_cons_of_mem _ hz)) hr
      have hyx := hi y List.mem_cons_self
      cases hf with
      | cons hx hr2 =>
        have hx0 : AStepF P st x.o x.δ x.rb x.rs := hx.local (agree_apply hyx.s.h1 hyx.b1 hyx.s1).symm
        have hy1 : AStepF P (x.δ.apply st x.o.dst) y.o y.δ y.rb y.rs := hy.local (agree_apply hyx.s.h2 hyx.b2 hyx.s2)
        exact .cons hx0 (.cons hy1 (hr2.eqv (swap_eqv hyx)))

/-! ## Which operations are ordered -/

/-- The operations that an operation must follow, as a set of bits. -/
def beforeMask (o : Oper) (A : List Nat) : Nat :=
  o.after.toList.foldl (fun m e => if Region.binds .any e then m ||| (1 <<< e.on) ||| A.getD e.on 0 else m) 0

def masks : List Oper → List Nat → List Nat
  | [], A => A
  | o :: r, A => masks r (A ++ [beforeMask o A])

def ordOk (A : List Nat) : List Oper → Nat → Bool
  | [], _ => true
  | o :: r, i => A.getD i 0 == beforeMask o A && (o.after.toList.all fun e => !Region.binds .any e || decide (e.on < i)) && ordOk A r (i + 1)

theorem ordOk_spec {A : List Nat} : ∀ {l : List Oper} {i : Nat}, ordOk A l i = true → ∀ k (h : k < l.length), A.getD (i + k) 0 = beforeMask l[k] A ∧ ∀ e ∈ l[k].after, Region.binds .any e = true → e.on < i + k
  | o :: r, i, h, k, hk => by
    simp only [ordOk, Bool.and_eq_true, beq_iff_eq, List.all_eq_true, Bool.or_eq_true, Bool.not_eq_true', decide_eq_true_eq] at h
    cases k with
    | zero =>
      refine ⟨h.1.1, fun e he hb => ?_⟩
      rcases h.1.2 e (Array.mem_toList_iff.2 he) with q | q
      · rw [hb] at q; cases q
      · exact q
    | succ k =>
      have := ordOk_spec h.2 k (by simpa using hk)
      rw [show i + (k + 1) = i + 1 + k from by omega]
      exact this

theorem mask_fold {A : List Nat} {k : Nat} : ∀ {l : List Edge} {m : Nat}, (l.foldl (fun m e => if Region.binds .any e then m ||| (1 <<< e.on) ||| A.getD e.on 0 else m) m).testBit k = true →
    m.testBit k = true ∨ ∃ e ∈ l, Region.binds .any e = true ∧ (k = e.on ∨ (A.getD e.on 0).testBit k = true)
  | [], m, h => .inl h
  | e :: r, m, h => by
    rw [List.foldl_cons] at h
    rcases mask_fold h with h | ⟨e', he, hb⟩
    · by_cases q : Region.binds .any e = true
      · rw [if_pos q] at h
        simp only [Nat.testBit_or, Bool.or_eq_true, Nat.one_shiftLeft, Nat.testBit_two_pow, decide_eq_true_eq] at h
        rcases h with (h | h) | h
        · exact .inl h
        · exact .inr ⟨e, List.mem_cons_self, q, .inl h.symm⟩
        · exact .inr ⟨e, List.mem_cons_self, q, .inr h⟩
      · rw [if_neg q] at h; exact .inl h
    · exact .inr ⟨e', List.mem_cons_of_mem _ he, hb⟩

section
variable {L : Nat → Bool} {n : Nat} {K : Ctx}

def Down (ops : Array Oper) (listed : Array Bool) : Prop :=
  ∀ j o, ops[j]? = some o → listed.getD j false = true → ∀ e ∈ o.after, Region.binds .any e = true → listed.getD e.on false = true

theorem mask_listed {ops : Array Oper} {A : List Nat} (hA : ordOk A ops.toList 0 = true) {listed : Array Bool} (hd : Down ops listed) {k : Nat} :
    ∀ (i : Nat) (o : Oper), ops[i]? = some o → (∀ e ∈ o.after, Region.binds .any e = true → listed.getD e.on false = true) → (A.getD i 0).testBit k = true → listed.getD k false = true := by
  intro i
  induction i using Nat.strongRecOn with
  | _ i ih =>
    intro o ho hall hbit
    have hlt : i < ops.toList.length := by simpa using (Array.getElem?_eq_some_iff.1 ho).1
    obtain ⟨h1, h2⟩ := ordOk_spec hA i hlt
    have hoi : ops.toList[i] = o := by
      have := (Array.getElem?_eq_some_iff.1 ho).2
      simpa using this
    rw [hoi, Nat.zero_add] at h1 h2
    rw [h1] at hbit
    rcases mask_fold hbit with q | ⟨e, he, hb, hk⟩
    · simp at q
    · have he' : e ∈ o.after := Array.mem_toList_iff.1 he
      rcases hk with rfl | hk
      · exact hall e he' hb
      · have hlt2 := h2 e he' hb
        have hes : e.on < ops.size := by
          have := (Array.getElem?_eq_some_iff.1 ho).1
          omega
        exact ih e.on hlt2 ops[e.on] (Array.getElem?_eq_getElem hes) (hd e.on _ (Array.getElem?_eq_getElem hes) (hall e he' hb)) hk

/-- The operations that follow all that lie ahead of them, carried out in the order of the text. -/
theorem tail_wp (hK : K.ok) {ops : Array Oper} {A : List Nat} (hA : ordOk A ops.toList 0 = true) {Q : Exit → Act → World → Prop} {Qa : St → Prop} (hq : ∀ st γ a w, SRel L n K st γ a w → Qa st → Q .normal a w) :
    ∀ (lt : List AOp) (m : Nat) (listed : Array Bool) {st : St} {γ : Ghost} {a : Act} {w : World}, ops.size = m + lt.length → (∀ k (h : k < lt.length), ∃ o, ops[m + k]? = some o ∧ stripOp P L n ops o = some lt[k]) →
      (∀ i, m ≤ i → i < ops.size → ∀ j < i, (A.getD i 0).testBit j = true) → listed.size = ops.size → (∀ i, i < ops.size → (listed.getD i true = false ↔ m ≤ i)) → Down ops listed → SRel L n K st γ a w → aops P lt st Qa →
      wpAny P .any ops Q lt.length listed a w := by
  intro lt
  induction lt with
  | nil =>
    intro m listed st γ a w hsz hit hfull hls hmem hdn hr h
    refine ⟨?_, hq _ _ _ _ hr h⟩
    refine List.eq_nil_iff_forall_not_mem.2 fun j hj => ?_
    obtain ⟨h1, o, h2, _⟩ := mem_ready.1 hj
    have h3 := (Array.getElem?_eq_some_iff.1 h2).1
    have := (hmem j h3).1 h1
    simp at hsz; omega
  | cons o r ih =>
    intro m listed st γ a w hsz hit hfull hls hmem hdn hr h
    simp only [List.length_cons] at hsz
    have hft : ∀ j, j < ops.size → listed.getD j true = true → listed.getD j false = true := fun j hj h => by
      have hj' : j < listed.size := by omega
      simpa [hj'] using h
    have htf : ∀ j, listed.getD j false = true → listed.getD j true = true := fun j h => by
      rcases Nat.lt_or_ge j listed.size with h' | h'
      · simpa [h'] using h
      · simp [h']
    obtain ⟨oo, e1, e2⟩ := hit 0 (by simp)
    rw [Nat.add_zero] at e1
    have hm : m < ops.size := by omega
    refine ⟨fun hno => ?_, fun i hi => ?_⟩
    · exfalso
      have : m ∈ Region.ready .any ops listed := by
        refine mem_ready.2 ⟨(hmem m hm).2 (Nat.le_refl _), oo, e1, fun e he hb => ?_⟩
        obtain ⟨_, h4⟩ := ordOk_spec hA m (by simpa using hm)
        have hoi : ops.toList[m]'(by simpa using hm) = oo := by
          have := (Array.getElem?_eq_some_iff.1 e1).2
          simpa using this
        rw [hoi] at h4
        have hlt2 := h4 e he hb
        rw [Nat.zero_add] at hlt2
        refine hft _ (by omega) ?_
        cases q : listed.getD e.on true with
        | true => rfl
        | false => have := (hmem e.on (by omega)).1 q; omega
      rw [hno] at this
      cases this
    · obtain ⟨hun, o2, ho2, hall⟩ := mem_ready.1 hi
      have hlt := (Array.getElem?_eq_some_iff.1 ho2).1
      have hmi := (hmem i hlt).1 hun
      have him : i = m := by
        rcases Nat.lt_or_ge m i with q | q
        · exfalso
          have h5 := mask_listed hA hdn i o2 ho2 hall (hfull i hmi hlt m q)
          have h6 := htf _ h5
          have h7 := (hmem m hm).2 (Nat.le_refl _)
          rw [h6] at h7; cases h7
        · omega
      subst him
      obtain ⟨st', h1, h2⟩ := aops_step h
      refine AStepS.wp hK hr (o := oo) e1 e2 h1 (fun γ' a' w' hr' => ?_)
      refine ih (i + 1) _ (by omega) (fun k hk => ?_) (fun i' h3 h4 => hfull i' (by omega) h4) (by simp [hls]) (fun j hj => ?_) (fun j o ho hlj e he hb => ?_) hr' h2
      · obtain ⟨o3, f1, f2⟩ := hit (k + 1) (by simpa using hk)
        exact ⟨o3, by rw [show i + 1 + k = i + (k + 1) from by omega]; exact f1, by simpa using f2⟩
      · by_cases e : i = j
        · subst e
          have : (listed.setIfInBounds i true).getD i true = true := by
            have hlt' : i < listed.size := by omega
            simp [hlt']
          rw [this]
          simp
        · rw [getD_set_ne true e, hmem j hj]; omega
      · by_cases q : i = j
        · subst q
          rw [e1] at ho
          obtain rfl := Option.some.inj ho
          have : oo = o2 := by rw [e1] at ho2; exact Option.some.inj ho2
          subst this
          exact getD_set_true (hall e he hb)
        · rw [getD_set_ne false q] at hlj
          exact getD_set_true (hdn j o ho hlj e he hb)

theorem any_wp (hK : K.ok) {ops : Array Oper} {A : List Nat} (hA : ordOk A ops.toList 0 = true) {Q : Exit → Act → World → Prop} {stf : St} {m r : Nat} (hfull : ∀ i, m ≤ i → i < ops.size → ∀ j < i, (A.getD i 0).testBit j = true)
    (hq : ∀ (listed : Array Bool) st γ a w, listed.size = ops.size → (∀ i, i < ops.size → (listed.getD i true = false ↔ m ≤ i)) → Down ops listed → SRel L n K st γ a w → Eqv stf st → wpAny P .any ops Q r listed a w) :
    ∀ (fuel : Nat) (l : List Item) (listed : Array Bool) {st : St} {γ : Ghost} {a : Act} {w : World}, l.length = fuel → listed.size = ops.size → (∀ x ∈ l, x.i < m) →
      (∀ i, i < ops.size → (listed.getD i true = false ↔ i ∈ l.map (·.i) ∨ m ≤ i)) →
      (∀ x ∈ l, ∃ oo, ops[x.i]? = some oo ∧ stripOp P L n ops oo = some x.o) →
      l.Pairwise (fun y x => Indep y x ∨ (A.getD x.i 0).testBit y.i = true) → l.Pairwise (fun y x => y.i < x.i) → Down ops listed → Goes P st l stf → SRel L n K st γ a w →
      wpAny P .any ops Q (fuel + r) listed a w := by
  intro fuel
  induction fuel with
  | zero =>
    intro l listed st γ a w hl hsz hlm hmem hit hpw hso hdn hgo hr
    have : l = [] := List.eq_nil_of_length_eq_zero hl
    subst this
    rw [Nat.zero_add]
    cases hgo with
    | nil he => exact hq listed _ γ a w hsz (fun i hi => by rw [hmem i hi]; simp) hdn hr he.symm
  | succ fuel ih =>
    intro l listed st γ a w hl hsz hlm hmem hit hpw hso hdn hgo hr
    rw [show fuel + 1 + r = (fuel + r) + 1 from by omega]
    have hft : ∀ j, j < ops.size → listed.getD j true = true → listed.getD j false = true := fun j hj h => by
      have hj' : j < listed.size := by omega
      simpa [hj'] using h
    have htf : ∀ j, listed.getD j false = true → listed.getD j true = true := fun j h => by
      rcases Nat.lt_or_ge j listed.size with h' | h'
      · simpa [h'] using h
      · simp [h']
    refine ⟨fun hno => ?_, fun i hi => ?_⟩
    · exfalso
      cases l with
      | nil => simp at hl
      | cons x r =>
        obtain ⟨oo, h1, h2⟩ := hit x List.mem_cons_self
        have hlt := (Array.getElem?_eq_some_iff.1 h1).1
        have : x.i ∈ Region.ready .any ops listed := by
          refine mem_ready.2 ⟨(hmem _ hlt).2 (by simp), oo, h1, fun e he hb => ?_⟩
          obtain ⟨_, h4⟩ := ordOk_spec hA x.i (by simpa using hlt)
          have hoi : ops.toList[x.i]'(by simpa using hlt) = oo := by
            have := (Array.getElem?_eq_some_iff.1 h1).2
            simpa using this
          rw [hoi] at h4
          have hlt2 := h4 e he hb
          rw [Nat.zero_add] at hlt2
          refine hft _ (by omega) ?_
          cases q : listed.getD e.on true with
          | true => rfl
          | false =>
            have hxm := hlm x List.mem_cons_self
            rcases (hmem e.on (by omega)).1 q with this | this
            rotate_left
            · omega
            obtain ⟨y, hy, hye⟩ := List.mem_map.1 this
            rcases List.mem_cons.1 hy with rfl | hy
            · omega
            · have := (List.pairwise_cons.1 hso).1 y hy
              omega
        rw [hno] at this
        cases this
    · obtain ⟨hun, oo, hoo, hall⟩ := mem_ready.1 hi
      have hlt := (Array.getElem?_eq_some_iff.1 hoo).1
      have hil : i ∈ l.map (·.i) := by
        rcases (hmem i hlt).1 hun with q | q
        · exact q
        · exfalso
          cases l with
          | nil => simp at hl
          | cons y r =>
            have hym := hlm y List.mem_cons_self
            obtain ⟨yo, hyo, _⟩ := hit y List.mem_cons_self
            have hylt := (Array.getElem?_eq_some_iff.1 hyo).1
            have h5 := mask_listed hA hdn i oo hoo hall (hfull i q hlt y.i (by omega))
            have h6 := htf _ h5
            have h7 := (hmem y.i hylt).2 (.inl (by simp))
            rw [h6] at h7; cases h7
      obtain ⟨x, hx, hxi⟩ := List.mem_map.1 hil
      obtain ⟨l1, l2, rfl⟩ := List.append_of_mem hx
      subst hxi
      have hp := List.pairwise_append.1 hpw
      have hs := List.pairwise_append.1 hso
      have hind : ∀ y ∈ l1, Indep y x := fun y hy => by
        rcases hp.2.2 y hy x List.mem_cons_self with q | q
        · exact q
        · have h5 := mask_listed hA hdn x.i oo hoo hall q
          have h6 := htf _ h5
          obtain ⟨yo, hyo, _⟩ := hit y (List.mem_append_left _ hy)
          have h7 := (hmem y.i (Array.getElem?_eq_some_iff.1 hyo).1).2 (.inl (List.mem_map.2 ⟨y, List.mem_append_left _ hy, rfl⟩))
          rw [h6] at h7; cases h7
      have hgf := hgo.front hind
      cases hgf with
      | cons hst hgr =>
        obtain ⟨oo', h1, h2⟩ := hit x hx
        refine AStep.wp hK hr h1 h2 hst.base (fun γ' a' w' hr' => ?_)
        refine ih (l1 ++ l2) _ (by simp at hl ⊢; omega) (by simp [hsz]) (fun y hy => hlm y ?_) (fun j hj => ?_) (fun y hy => hit y ?_) ?_ ?_ (fun j o ho hlj e he hb => ?_) hgr hr'
        · rcases List.mem_append.1 hy with hy | hy
          · exact List.mem_append_left _ hy
          · exact List.mem_append_right _ (List.mem_cons_of_mem _ hy)
        · by_cases e : x.i = j
          · subst e
            have : (listed.setIfInBounds x.i true).getD x.i true = true := by
              have hlt' : x.i < listed.size := by omega
              simp [hlt']
            rw [this]
            refine ⟨fun h => (by cases h), fun h => ?_⟩
            exfalso
            rcases h with h | h
            rotate_left
            · have := hlm x hx; omega
            obtain ⟨y, hy, hye⟩ := List.mem_map.1 h
            rcases List.mem_append.1 hy with hy | hy
            · have := hs.2.2 y hy x List.mem_cons_self; omega
            · have := (List.pairwise_cons.1 hs.2.1).1 y hy; omega
          · rw [getD_set_ne true e, hmem j hj]
            simp only [List.map_append, List.map_cons, List.mem_append, List.mem_cons]
            constructor
            · rintro ((h | h | h) | h)
              · exact .inl (.inl h)
              · exact absurd h.symm e
              · exact .inl (.inr h)
              · exact .inr h
            · rintro ((h | h) | h)
              · exact .inl (.inl h)
              · exact .inl (.inr (.inr h))
              · exact .inr h
        · rcases List.mem_append.1 hy with hy | hy
          · exact List.mem_append_left _ hy
          · exact List.mem_append_right _ (List.mem_cons_of_mem _ hy)
        · exact List.pairwise_append.2 ⟨hp.1, (List.pairwise_cons.1 hp.2.1).2, fun y hy z hz => hp.2.2 y hy z (List.mem_cons_of_mem _ hz)⟩
        · exact List.pairwise_append.2 ⟨hs.1, (List.pairwise_cons.1 hs.2.1).2, fun y hy z hz => hs.2.2 y hy z (List.mem_cons_of_mem _ hz)⟩
        · by_cases e2 : x.i = j
          · subst e2
            rw [hoo] at ho
            obtain rfl := Option.some.inj ho
            exact getD_set_true (hall e he hb)
          · rw [getD_set_ne false e2] at hlj
            exact getD_set_true (hdn j o ho hlj e he hb)

end
end Go.Proofs.Ytpiafiapjmldgaa
