/-
  What a state of the abstract machine says of a frame and of the world, and how a step keeps it.
-/
import Derived.Test.YtpiafiapjmldgaaRel
namespace Go.Proofs.Ytpiafiapjmldgaa
set_option linter.all false

/-- The call's own frame: the world in which it began, and the older blocks that it may change. -/
structure Ctx where
  w0 : World
  init : Nat → Prop
  av : Nat → Prop
  lens : Nat → Option Nat
  l1000 : ∀ d g, lens d = some g → 1000 ≤ d

def Ctx.may (K : Ctx) (g : Nat) : Prop := K.w0.heap.size ≤ g ∨ K.init g

structure Ctx.frame (K : Ctx) (w : World) : Prop where
  os : w.os = K.w0.os
  tape : w.tape = K.w0.tape
  output : w.output = K.w0.output
  size : K.w0.heap.size ≤ w.heap.size
  same : ∀ g, g < K.w0.heap.size → ¬ K.init g → w.heap[g]? = K.w0.heap[g]?
  typ : ∀ g t, OfType K.w0 g t → OfType w g t

structure HInv (K : Ctx) (B : List (Nat × List V)) (S : Stats) (γ : Ghost) (w : World) : Prop where
  box : ∀ d cs, lookB B d = some cs → ∃ g c e, γ.bx d = some g ∧ γ.ow g = some (true, d) ∧ w.heap[g]? = some (.cells c e (0, 0)) ∧ c.size = cs.length ∧
    ∀ k (h : k < cs.length) (h' : k < c.size), VRel S γ w cs[k] c[k]
  bxd : (∀ d g, γ.bx d = some g → (lookB B d).isSome = true) ∧ ∀ d g, K.lens d = some g → γ.bx d = some g
  sp : ∀ σ top sz, lookS S σ = some (.own top sz) → (γ.sp σ = none ∧ top = 0) ∨
    ∃ g c e, γ.sp σ = some g ∧ γ.ow g = some (false, σ) ∧ w.heap[g]? = some (.cells c e (0, 0)) ∧ top * sz ≤ c.size
  ow : ∀ g x, γ.ow g = some x → g < w.heap.size ∧ K.may g
  av : γ.av = K.av ∧ ∀ g, γ.av g → g < w.heap.size ∧ γ.ow g = none
  frame : K.frame w

/-- The slots of a frame. -/
structure ERel (L : Nat → Bool) (n : Nat) (st : St) (γ : Ghost) (a : Act) (w : World) : Prop where
  defers : a.defers = []
  size : a.tmps.size = n
  slot : ∀ t, VRel st.stat γ w (if L t then look st.loc t else look st.env t) (a.tmps.getD t undef)

structure SRel (L : Nat → Bool) (n : Nat) (K : Ctx) (st : St) (γ : Ghost) (a : Act) (w : World) : Prop where
  h : HInv K st.box st.stat γ w
  e : ERel L n st γ a w

/-- A tag that fits: kept slots and slots of a statement are told apart by 'L'; there is such a slot. -/
def AD.ok (L : Nat → Bool) (n : Nat) : AD → Prop
  | .no => True
  | .l d => L d = true ∧ d < n
  | .g d => L d = false ∧ d < n

def AD.toOpt : AD → Option Tmp
  | .no => none
  | .l d => some d
  | .g d => some d

def AX.ok (L : Nat → Bool) : AX → Prop
  | .l t => L t = true
  | .g t => L t = false
  | _ => True

theorem getD_setIfInBounds (a : Array Value) (d t : Nat) (v u : Value) (h : d < a.size) :
    (a.setIfInBounds d v).getD t u = if t = d then v else a.getD t u := by
  simp only [Array.getD_eq_getD_getElem?, Array.getElem?_setIfInBounds]
  by_cases e : d = t
  · subst e; simp [h]
  · simp [e, Ne.symm e]

theorem ERel.evo {L : Nat → Bool} {n : Nat} {st st' : St} {γ γ' : Ghost} {a : Act} {w w' : World} (h : ERel L n st γ a w)
    (ev : Evo st.stat γ w st'.stat γ' w') (h1 : st'.env = st.env) (h2 : st'.loc = st.loc) : ERel L n st' γ' a w' :=
  ⟨h.defers, h.size, fun t => by rw [h1, h2]; exact (h.slot t).evo ev⟩

theorem ERel.put {L : Nat → Bool} {n : Nat} {st : St} {γ : Ghost} {a : Act} {w : World} (h : ERel L n st γ a w) {dst : AD} (hd : dst.ok L n) {x : V} {v : Value}
    (hv : VRel st.stat γ w x v) : ERel L n (st.put dst x) γ (a.put dst.toOpt v) w := by
  cases dst with
  | no => exact h
  | l d =>
    obtain ⟨h1, h2⟩ := hd
    refine ⟨h.defers, by simp [Act.put, AD.toOpt, h.size], fun t => ?_⟩
    have hs := h.slot t
    simp only [Act.put, AD.toOpt, St.put, getD_setIfInBounds _ _ _ _ _ (h.size ▸ h2)]
    by_cases e : t = d
    · subst e; simpa [h1, look] using hv
    · simpa [look, e] using hs
  | g d =>
    obtain ⟨h1, h2⟩ := hd
    refine ⟨h.defers, by simp [Act.put, AD.toOpt, h.size], fun t => ?_⟩
    have hs := h.slot t
    simp only [Act.put, AD.toOpt, St.put, getD_setIfInBounds _ _ _ _ _ (h.size ▸ h2)]
    by_cases e : t = d
    · subst e; simpa [h1, look] using hv
    · simpa [look, e] using hs

theorem put_box (st : St) (dst : AD) (v : V) : (st.put dst v).box = st.box := by cases dst <;> rfl
theorem put_stat (st : St) (dst : AD) (v : V) : (st.put dst v).stat = st.stat := by cases dst <;> rfl

/-- THE STEP: the world has changed so that all values read as before; what is owned lies where it is said to lie; the result reads as it is said. -/
theorem SRel.step {L : Nat → Bool} {n : Nat} {K : Ctx} {st : St} {γ γ' : Ghost} {a : Act} {w w' : World} (h : SRel L n K st γ a w) {δ : Delta} {dst : AD} (hd : dst.ok L n) {v : Value}
    (ev : Evo st.stat γ w (δ.ns ++ st.stat) γ' w') (hh : HInv K (δ.nb ++ st.box) (δ.ns ++ st.stat) γ' w') (hv : VRel (δ.ns ++ st.stat) γ' w' δ.val v) :
    SRel L n K (δ.apply st dst) γ' (a.put dst.toOpt v) w' := by
  have h1 : ERel L n { st with box := δ.nb ++ st.box, stat := δ.ns ++ st.stat } γ' a w' := h.e.evo ev rfl rfl
  refine ⟨?_, h1.put hd hv⟩
  rw [Delta.apply, put_box, put_stat]
  exact hh

/-- A step that leaves the world alone, and makes nothing. -/
theorem Evo.refl (S : Stats) (γ : Ghost) (w : World) : Evo S γ w S γ w :=
  ⟨fun g o h1 h2 => ⟨h1, h2⟩, fun d g h => h, fun g t h => h, fun σ h => h, fun σ h => .inl h,
    fun σ top sz h => .inr (.inr ⟨top, h, Nat.le_refl _, fun g c e fr h1 h2 => .inl ⟨h1, c, h2, rfl, fun k _ => rfl⟩⟩)⟩

theorem SRel.pure {L : Nat → Bool} {n : Nat} {K : Ctx} {st : St} {γ : Ghost} {a : Act} {w : World} (h : SRel L n K st γ a w) {dst : AD} (hd : dst.ok L n) {x : V} {v : Value}
    (hv : VRel st.stat γ w x v) : SRel L n K (st.put dst x) γ (a.put dst.toOpt v) w :=
  ⟨by rw [put_box, put_stat]; exact h.h, h.e.put hd hv⟩

/-- The value of an operand, as the state has it. -/
theorem SRel.val {L : Nat → Bool} {n : Nat} {K : Ctx} {st : St} {γ : Ghost} {a : Act} {w : World} (h : SRel L n K st γ a w) (t : Nat) :
    VRel st.stat γ w (st.val (if L t then .l t else .g t)) (a.eval (.tmp t)) := by
  have := h.e.slot t
  by_cases e : L t = true
  · simpa [e, St.val, Act.eval] using this
  · simpa [e, St.val, Act.eval] using this

end Go.Proofs.Ytpiafiapjmldgaa
