/-
  The operations that make memory: variables, literals of slices.
-/
import Derived.Test.YtnhhcfbigjpfeaaDoorQ04
namespace Go.Proofs.YtnhhcfbigjpfeaaDoor
set_option linter.all false

section

/-- A world with one block more. -/
structure Pushed (w w' : World) (ob : Obj) : Prop where
  heap : w'.heap = w.heap.push ob
  os : w'.os = w.os
  tape : w'.tape = w.tape
  output : w'.output = w.output

theorem pushed_alloc (w : World) (ob : Obj) : Pushed w (w.alloc ob) ob := ⟨rfl, rfl, rfl, rfl⟩
theorem pushed_drew_alloc (w : World) (ob : Obj) : Pushed w (w.drew.alloc ob) ob := ⟨rfl, rfl, rfl, rfl⟩

section
variable {w w' : World} {ob : Obj} (h : Pushed w w' ob)
include h

theorem Pushed.new : w'.heap[w.heap.size]? = some ob := by rw [h.heap]; simp
theorem Pushed.old {g : Nat} {o : Obj} (hg : w.heap[g]? = some o) : w'.heap[g]? = some o := by
  rw [h.heap, Array.getElem?_push, if_neg]
  · exact hg
  · have := (Array.getElem?_eq_some_iff.1 hg).1; omega
theorem Pushed.lt {g : Nat} (hg : g < w.heap.size) : w'.heap[g]? = w.heap[g]? := by
  rw [h.heap, Array.getElem?_push, if_neg (by omega)]
theorem Pushed.size : w'.heap.size = w.heap.size + 1 := by rw [h.heap]; simp
theorem Pushed.typ {g t : Nat} (hg : OfType w g t) : OfType w' g t := by
  obtain ⟨c, fr, q⟩ := hg
  exact ⟨c, fr, h.old q⟩
theorem Pushed.frame {K : Ctx} (hk : K.frame w) : K.frame w' :=
  ⟨h.os.trans hk.os, h.tape.trans hk.tape, h.output.trans hk.output, by rw [h.size]; have := hk.size; omega,
    fun g hg hi => by rw [h.lt (Nat.lt_of_lt_of_le hg hk.size)]; exact hk.same g hg hi, fun g t q => h.typ (hk.typ g t q)⟩
end

theorem may_new {K : Ctx} {w : World} (h : K.frame w) : K.may w.heap.size := .inl h.size

def upd {α : Type} (f : Nat → Option α) (k : Nat) (v : Option α) : Nat → Option α := fun t => if t = k then v else f t

theorem HInv.av_new {K : Ctx} {B : List (Nat × List V)} {S : Stats} {γ : Ghost} {w w' : World} {ob : Obj} (h : HInv K B S γ w) (hw : w'.heap.size = w.heap.size + 1) {x : Bool × Nat} :
    ∀ g, γ.av g → g < w'.heap.size ∧ (if g = w.heap.size then some x else γ.ow g) = none := by
  intro g hg
  have := h.av.2 g hg
  refine ⟨by omega, ?_⟩
  rw [if_neg (by omega)]; exact this.2

section ops
variable {P : Program} {L : Nat → Bool} {n : Nat} {K : Ctx} {st : St} {γ : Ghost} {a : Act} {w : World} {o : Oper} {dst : AD}

/-- A new variable. -/
theorem new_box (h : SRel L n K st γ a w) (hd : dst.ok L n) {b : Nat} (hb : lookB st.box b = none) {w' : World} {c : Array Value} {e : TypeId} (hw : Pushed w w' (.cells c e (0, 0))) {cs : List V}
    (hc : ∀ γ', γ'.bx b = some w.heap.size → Evo st.stat γ w st.stat γ' w' → CellsRel st.stat γ' w' cs c.toList) {cl : Cls} :
    ∃ γ', SRel L n K (Delta.apply { val := .ptr b 0, nb := [(b, cs)], cls := cl } st dst) γ' (a.put dst.toOpt (.pointer (some ⟨w.heap.size, 0, none⟩))) w' := by
  have hbx : γ.bx b = none := by
    cases e : γ.bx b with
    | none => rfl
    | some g => have := h.h.bxd.1 _ _ e; simp [hb] at this
  let γ' : Ghost := { γ with bx := upd γ.bx b (some w.heap.size), ow := upd γ.ow w.heap.size (some (true, b)) }
  have hO : ∀ g, g ≠ w.heap.size → (γ'.O g ↔ γ.O g) := fun g hg => by simp [Ghost.O, γ', upd, hg]
  have ev : Evo st.stat γ w st.stat γ' w' := by
    refine ⟨fun g ob h1 h2 => ⟨?_, hw.old h2⟩, fun d g hd => ?_, fun g t q => hw.typ q, fun σ h => h, fun σ h => .inl h, fun σ top sz h1 => .inr (.inr ⟨top, h1, Nat.le_refl _, fun g c e fr h2 h3 => .inl ⟨h2, c, hw.old h3, rfl, fun k _ => rfl⟩⟩)⟩
    · rw [hO g (by have := (Array.getElem?_eq_some_iff.1 h2).1; omega)]; exact h1
    · show upd γ.bx b (some w.heap.size) d = some g
      unfold upd
      rw [if_neg (by rintro rfl; rw [hbx] at hd; cases hd)]
      exact hd
  refine ⟨γ', h.step hd ev ?_ (.ptr (by simp [γ', upd]))⟩
  refine ⟨fun d cs' hl => ?_, ⟨fun d g hg => ?_, fun d g hg => ?_⟩, fun σ top sz hs => ?_, fun g x hg => ?_, ⟨h.h.av.1, h.h.av_new (ob := .cells c e (0, 0)) hw.size⟩, hw.frame h.h.frame⟩
  · simp only [List.cons_append, List.nil_append, lookB] at hl
    by_cases hdb : d = b
    · rw [if_pos hdb] at hl
      obtain rfl := Option.some.inj hl
      have hc := hc γ' (by simp [γ', upd]) ev
      refine ⟨w.heap.size, c, e, by simp [γ', upd, hdb], by simp [γ', upd, hdb], hw.new, by simpa using hc.1, fun k hk hk' => ?_⟩
      have := hc.2 k hk (by simpa using hk')
      simpa using this
    · rw [if_neg hdb] at hl
      obtain ⟨g, c', e', h1, h2, h3, h4, h5⟩ := h.h.box d cs' hl
      have hg : g ≠ w.heap.size := by have := (Array.getElem?_eq_some_iff.1 h3).1; omega
      exact ⟨g, c', e', by simpa [γ', upd, hdb] using h1, by simpa [γ', upd, hg] using h2, hw.old h3, h4, fun k hk hk' => (h5 k hk hk').evo ev⟩
  · by_cases hdb : d = b
    · simp [lookB, hdb]
    · have : γ.bx d = some g := by simpa [γ', upd, hdb] using hg
      have := h.h.bxd.1 _ _ this
      simpa [lookB, hdb] using this
  · have h1 := h.h.bxd.2 d g hg
    have : d ≠ b := by rintro rfl; rw [hbx] at h1; cases h1
    simpa [γ', upd, this] using h1
  · rcases h.h.sp σ top sz hs with h1 | ⟨g, c', e', h1, h2, h3, h4⟩
    · exact .inl h1
    · have hg : g ≠ w.heap.size := by have := (Array.getElem?_eq_some_iff.1 h3).1; omega
      exact .inr ⟨g, c', e', h1, by simpa [γ', upd, hg] using h2, hw.old h3, h4⟩
  · by_cases hgs : g = w.heap.size
    · subst hgs
      exact ⟨by rw [hw.size]; omega, may_new h.h.frame⟩
    · have := h.h.ow g x (by simpa [γ', upd, hgs] using hg)
      exact ⟨by rw [hw.size]; omega, this.2⟩

theorem run_alloc {t : TypeId} {i : TypeInfo} {z : Value} (h1 : P.info? t = some i) (h2 : i.zero = some z) (w : World) :
    (Instr.alloc t true (.tuple #[])).run P w = .ok (.pointer (some ⟨w.heap.size, 0, none⟩)) (w.alloc (.cells z.cells t)) := by
  simp [Instr.alloc, zeroValue, typeInfo, h1, h2, newVar, newRow]

theorem sound_alloc (h : SRel L n K st γ a w) (hd : dst.ok L n) {t : TypeId} {z : List V} (hop : o.op = .alloc t) (hz : zeroT P t = some z)
    {d : Nat} {p : Prop} {δ : Delta} (hδ : astep st d (.alloc z) = some (p, δ)) (hp : p) : Runs P L n K (δ.apply st dst) dst.toOpt o a w := by
  obtain ⟨it, zv, z1, z2, z3⟩ := zeroT_some hz
  simp only [astep, Option.some.injEq, Prod.mk.injEq] at hδ
  obtain ⟨rfl, rfl⟩ := hδ
  obtain ⟨γ', hr⟩ := new_box h hd hp (pushed_alloc w (.cells zv.cells t)) (fun γ' _ _ => constCells_rel z3 st.stat γ' _) (cl := .n)
  refine ⟨_, _, γ', .inl ?_, hr⟩
  rw [show execOp a.eval o = (do pure (Next.value (← Instr.alloc t true (.tuple #[])))) from by simp only [execOp, hop]]
  exact exec_value (run_alloc z1 z2 w)

theorem sound_allocN (h : SRel L n K st γ a w) (hd : dst.ok L n) {t : TypeId} {z : List V} (hop : o.op = .alloc t) (hz : zeroT P t = some (.nilp :: z))
    {d : Nat} {p : Prop} {δ : Delta} (hδ : astep st d (.allocN t z) = some (p, δ)) (hp : p) : Runs P L n K (δ.apply st dst) dst.toOpt o a w := by
  obtain ⟨it, zv, z1, z2, z3⟩ := zeroT_some hz
  simp only [astep, Option.some.injEq, Prod.mk.injEq] at hδ
  obtain ⟨rfl, rfl⟩ := hδ
  have hw := pushed_alloc w (.cells zv.cells t)
  obtain ⟨γ', hr⟩ := new_box h hd hp hw (cs := .nilb d t :: z) (fun γ' hb ev => by
    obtain ⟨q1, q2⟩ := constCells_rel z3 st.stat γ' (w.alloc (.cells zv.cells t))
    refine ⟨by simpa using q1, fun k hk hk' => ?_⟩
    have h3 := q2 k (by simpa using hk) hk'
    cases k with
    | zero =>
      simp only [List.getElem_cons_zero] at h3 ⊢
      rw [h3.nilp_inv]
      exact .nilb hb ⟨zv.cells, (0, 0), hw.new⟩
    | succ k => simpa using h3) (cl := .n)
  refine ⟨_, _, γ', .inl ?_, hr⟩
  rw [show execOp a.eval o = (do pure (Next.value (← Instr.alloc t true (.tuple #[])))) from by simp only [execOp, hop]]
  exact exec_value (run_alloc z1 z2 w)

theorem sound_box (h : SRel L n K st γ a w) (hd : dst.ok L n) {t : TypeId} {X : Operand} {x : AX} (hop : o.op = .box t X) (hx : stripX L X = some x)
    {d : Nat} {p : Prop} {δ : Delta} (hδ : astep st d (.box x) = some (p, δ)) (hp : p) : Runs P L n K (δ.apply st dst) dst.toOpt o a w := by
  have rx := stripX_rel h hx
  simp only [astep, Option.some.injEq, Prod.mk.injEq] at hδ
  obtain ⟨rfl, rfl⟩ := hδ
  obtain ⟨c1, c2⟩ := rx.cells hp.2
  obtain ⟨γ', hr⟩ := new_box h hd hp.1 (pushed_alloc w (.cells (a.eval X).cells t)) (fun γ' _ ev => ⟨by simpa using c1, fun k hk hk' => by simpa using (c2 k hk (by simpa using hk')).evo ev⟩) (cl := .n)
  refine ⟨_, _, γ', .inl ?_, hr⟩
  rw [show execOp a.eval o = (do pure (Next.value (← Instr.box t (a.eval X)))) from by simp only [execOp, hop]]
  exact exec_value (by simp [Instr.box, newVar, newRow])

/-- Stamps given up. -/
theorem lookS_toImm (D : List Nat) (S : Stats) (σ : Nat) : lookS (toImm D ++ S) σ = if σ ∈ D then some .imm else lookS S σ := by
  induction D with
  | nil => simp [toImm]
  | cons x r ih =>
    simp only [toImm, List.map_cons, List.cons_append, lookS]
    by_cases e : σ = x
    · simp [e]
    · simp only [e, if_false, List.mem_cons, false_or]
      exact ih

theorem demote (h : SRel L n K st γ a w) {D : List Nat} (hD : ∀ σ ∈ D, alive st.stat σ) :
    ∃ γ', SRel L n K { st with stat := toImm D ++ st.stat } γ' a w ∧ Evo st.stat γ w (toImm D ++ st.stat) γ' w := by
  let γ' : Ghost := { γ with ow := fun g => match γ.ow g with | some (false, σ) => if σ ∈ D then none else some (false, σ) | x => x }
  have hO : ∀ g, γ'.O g → γ.O g := fun g hg => or_map hg (fun q he => q (by simp [γ', he])) id
  have ev : Evo st.stat γ w (toImm D ++ st.stat) γ' w := by
    refine ⟨fun g ob h1 h2 => ⟨fun q => h1 (hO g q), h2⟩, fun d g hd => hd, fun g t q => q, fun σ hs => ?_, fun σ hs => ?_, fun σ top sz hs => ?_⟩
    · rw [lookS_toImm]
      by_cases e : σ ∈ D
      · have := hD σ e; simp [alive, hs] at this
      · simpa [e] using hs
    · rw [lookS_toImm]
      by_cases e : σ ∈ D
      · simp [e]
      · simp [e, hs]
    · rw [lookS_toImm]
      by_cases e : σ ∈ D
      · refine .inr (.inl ⟨by simp [e], fun g ob h1 h2 => ⟨?_, h2⟩⟩)
        rcases h.h.sp σ top sz hs with ⟨h3, _⟩ | ⟨g', c, e', h3, h4, _⟩
        · rw [h1] at h3; cases h3
        · rw [h1] at h3
          obtain rfl := Option.some.inj h3
          have hav : ¬ γ.av g := fun q => by have := (h.h.av.2 g q).2; rw [h4] at this; cases this
          simp [Ghost.O, γ', h4, e, hav]
      · exact .inr (.inr ⟨top, by simp [e, hs], Nat.le_refl _, fun g c e' fr h1 h2 => .inl ⟨h1, c, h2, rfl, fun k _ => rfl⟩⟩)
  refine ⟨γ', ⟨⟨fun d cs hl => ?_, h.h.bxd, fun σ top sz hs => ?_, fun g x hg => ?_, ⟨h.h.av.1, fun g hg => ⟨(h.h.av.2 g hg).1, by simp [γ', (h.h.av.2 g hg).2]⟩⟩, h.h.frame⟩, h.e.evo ev rfl rfl⟩, ev⟩
  · obtain ⟨g, c, e, h1, h2, h3, h4, h5⟩ := h.h.box d cs hl
    exact ⟨g, c, e, h1, by simp [γ', h2], h3, h4, fun k hk hk' => (h5 k hk hk').evo ev⟩
  · simp only [lookS_toImm] at hs
    by_cases e : σ ∈ D
    · simp [e] at hs
    · simp only [e, if_false] at hs
      rcases h.h.sp σ top sz hs with h1 | ⟨g, c, e', h1, h2, h3⟩
      · exact .inl h1
      · exact .inr ⟨g, c, e', h1, by simp [γ', h2, e], h3⟩
  · cases e : γ.ow g with
    | none => simp [γ', e] at hg
    | some y => exact ⟨(h.h.ow g y e).1, (h.h.ow g y e).2⟩

/-- New storage with a stamp of its own. -/
theorem new_own_x (h : SRel L n K st γ a w) (hd : dst.ok L n) {s : Nat} (hs : lookS st.stat s = none) {w' : World} {c : Array Value} {e : TypeId} (hw : Pushed w w' (.cells c e (0, 0))) {xs : List V} {sz cap : Nat} {us : List Value}
    (hcap : xs.length ≤ cap) (hmax : cap ≤ maxLen) (hsz : ∀ x ∈ xs, x.cells.length = sz) (hlen : us.length = (flat xs).length) (hus : ∀ k, k < us.length → c[k]? = us[k]?) (h1 : ∀ u ∈ us, u.oneCell' = true)
    (hel : ∀ k (h : k < (flat xs).length) (h' : k < us.length), PRel γ.O w ((flat xs)[k]) (us[k])) (hc : c.size = cap * sz) {cl : Cls} {xr : V} (hxr : ∀ γ', VRel ((s, some (.own xs.length sz)) :: st.stat) γ' w' (.sl (some s) sz xs) (.slice (some ⟨w.heap.size, 0, none⟩) xs.length cap) → VRel ((s, some (.own xs.length sz)) :: st.stat) γ' w' xr (.slice (some ⟨w.heap.size, 0, none⟩) xs.length cap)) :
    ∃ γ', SRel L n K (Delta.apply { val := xr, ns := [(s, some (.own xs.length sz))], cls := cl } st dst) γ' (a.put dst.toOpt (.slice (some ⟨w.heap.size, 0, none⟩) xs.length cap)) w' := by
  let γ' : Ghost := { γ with sp := upd γ.sp s (some w.heap.size), ow := upd γ.ow w.heap.size (some (false, s)) }
  have hO : ∀ g, g ≠ w.heap.size → (γ'.O g ↔ γ.O g) := fun g hg => by simp [Ghost.O, γ', upd, hg]
  have hne : ∀ σ x, lookS st.stat σ = some x → σ ≠ s := by rintro σ x hx rfl; rw [hs] at hx; cases hx
  have ev : Evo st.stat γ w ((s, some (.own xs.length sz)) :: st.stat) γ' w' := by
    refine ⟨fun g ob h1 h2 => ⟨?_, hw.old h2⟩, fun d g hd => hd, fun g t q => hw.typ q, fun σ hq => by simpa [lookS, hne _ _ hq] using hq, fun σ hq => .inl (by simpa [lookS, hne _ _ hq] using hq),
      fun σ top sz' hq => .inr (.inr ⟨top, by simpa [lookS, hne _ _ hq] using hq, Nat.le_refl _, fun g c e fr h2 h3 => .inl ⟨by simpa [γ', upd, hne _ _ hq] using h2, c, hw.old h3, rfl, fun k _ => rfl⟩⟩)⟩
    rw [hO g (by have := (Array.getElem?_eq_some_iff.1 h2).1; omega)]; exact h1
  have hlf := length_flat hsz
  refine ⟨γ', h.step hd ev ?_ ?_⟩
  · refine ⟨fun d cs' hl => ?_, h.h.bxd, fun σ top sz' hq => ?_, fun g x hg => ?_, ⟨h.h.av.1, h.h.av_new (ob := .cells c e (0, 0)) hw.size⟩, hw.frame h.h.frame⟩
    · obtain ⟨g, c', e', h1, h2, h3, h4, h5⟩ := h.h.box d cs' hl
      have hg : g ≠ w.heap.size := by have := (Array.getElem?_eq_some_iff.1 h3).1; omega
      exact ⟨g, c', e', h1, by simpa [γ', upd, hg] using h2, hw.old h3, h4, fun k hk hk' => (h5 k hk hk').evo ev⟩
    · simp only [List.cons_append, List.nil_append, lookS] at hq
      by_cases e : σ = s
      · rw [if_pos e] at hq
        cases hq
        refine .inr ⟨w.heap.size, c, _, by simp [γ', upd, e], by simp [γ', upd, e], hw.new, ?_⟩
        rw [hc]; exact Nat.mul_le_mul_right _ hcap
      · rw [if_neg e] at hq
        rcases h.h.sp σ top sz' hq with h1 | ⟨g, c', e', h1, h2, h3, h4⟩
        · exact .inl (by simpa [γ', upd, e] using h1)
        · have hg : g ≠ w.heap.size := by have := (Array.getElem?_eq_some_iff.1 h3).1; omega
          exact .inr ⟨g, c', e', by simpa [γ', upd, e] using h1, by simpa [γ', upd, hg] using h2, hw.old h3, h4⟩
    · by_cases hgs : g = w.heap.size
      · subst hgs
        exact ⟨by rw [hw.size]; omega, may_new h.h.frame⟩
      · have := h.h.ow g x (by simpa [γ', upd, hgs] using hg)
        exact ⟨by rw [hw.size]; omega, this.2⟩
  · refine hxr _ (.own (by simp [lookS]) (.inr ⟨w.heap.size, 0, cap, c, e, (0, 0), us, rfl, hw.new, hcap, hmax, hsz, hlen, fun k hk => by simpa using hus k hk, h1, fun k hk hk' => (hel k hk hk').mono ev.keep,
      .inl ⟨by simp [γ', upd], by simp, fun _ => ⟨rfl, rfl, hc, Nat.le_refl _⟩⟩⟩))

theorem new_own (h : SRel L n K st γ a w) (hd : dst.ok L n) {s : Nat} (hs : lookS st.stat s = none) {w' : World} {c : Array Value} {e : TypeId} (hw : Pushed w w' (.cells c e (0, 0))) {xs : List V} {sz cap : Nat} {us : List Value}
    (hcap : xs.length ≤ cap) (hmax : cap ≤ maxLen) (hsz : ∀ x ∈ xs, x.cells.length = sz) (hlen : us.length = (flat xs).length) (hus : ∀ k, k < us.length → c[k]? = us[k]?) (h1 : ∀ u ∈ us, u.oneCell' = true)
    (hel : ∀ k (h : k < (flat xs).length) (h' : k < us.length), PRel γ.O w ((flat xs)[k]) (us[k])) (hc : c.size = cap * sz) {cl : Cls} :
    ∃ γ', SRel L n K (Delta.apply { val := .sl (some s) sz xs, ns := [(s, some (.own xs.length sz))], cls := cl } st dst) γ' (a.put dst.toOpt (.slice (some ⟨w.heap.size, 0, none⟩) xs.length cap)) w' :=
  new_own_x h hd hs hw hcap hmax hsz hlen hus h1 hel hc (xr := .sl (some s) sz xs) fun _ q => q

/-- A value as it stands when it has been put into a slice, its stamps given up. -/
theorem VRel.er1 {S : Stats} {γ : Ghost} {w : World} {x : V} {v : Value} (hx : x.cell1 = true) (hs : ∀ σ ∈ x.stamp1, lookS S σ = some .imm) (h : VRel S γ w x v) : PRel γ.O w x.er1 v := by
  cases x with
  | bool b => obtain rfl := h.bool_inv; exact .bool b
  | int k n => obtain rfl := h.int_inv; exact .int k n
  | str l => obtain ⟨s, rfl, e⟩ := h.str_inv; exact .str l s e
  | nils => obtain rfl := h.nils_inv; exact .nils
  | sl σ sz xs =>
    cases σ with
    | none => cases h with | base h => exact h
    | some σ =>
      have := hs σ (by simp [V.stamp1])
      cases h with
      | base h => cases h
      | own hs' _ => rw [this] at hs'; cases hs'
      | imm _ h => exact h
      | dead hs' _ => rw [this] at hs'; cases hs'
  | vw σ tt sz xs =>
    have := hs σ (by simp [V.stamp1])
    cases h with
    | base h => cases h
    | vown hs' _ _ _ => rw [this] at hs'; cases hs'
    | vimm _ h => exact h
    | vdead hs' _ => rw [this] at hs'; cases hs'
  | _ => simp [V.cell1] at hx

theorem V.cell1_flat1 {x : V} (h : x.cell1 = true) : x.flat1 = true := by cases x <;> simp_all [V.cell1, V.flat1]

theorem V.okEl_okB {x : V} (h : x.okEl = true) : x.okB = true := by
  cases x <;> simp_all [V.okEl, V.okB, V.cell1]
  intro c hc; exact V.cell1_flat1 (h c hc)

theorem V.er_cells (x : V) : x.er.cells = x.cells.map V.er1 := by
  cases x <;> simp [V.er, V.cells, V.er1]

/-- The cells of an element. -/
theorem VRel.er {S : Stats} {γ : Ghost} {w : World} {x : V} {v : Value} (hx : x.okEl = true) (hs : ∀ σ ∈ x.stamps, lookS S σ = some .imm) (h : VRel S γ w x v) :
    v.cells.size = x.er.cells.length ∧ (∀ k (h1 : k < x.er.cells.length) (h2 : k < v.cells.size), PRel γ.O w x.er.cells[k] v.cells[k]) ∧ ∀ u ∈ v.cells, u.oneCell' = true := by
  obtain ⟨c1, c2⟩ := h.cells (V.okEl_okB hx)
  refine ⟨by rw [V.er_cells]; simpa using c1, fun k h1 h2 => ?_, h.one (V.okEl_okB hx)⟩
  simp only [V.er_cells, List.getElem_map]
  have hk : k < x.cells.length := by simpa [V.er_cells] using h1
  refine (c2 k hk h2).er1 ?_ (fun σ hσ => hs σ ?_)
  · have hm := List.getElem_mem hk
    cases x <;> simp only [V.okEl, V.cells, List.all_eq_true] at * <;> first | exact hx _ hm | (simp only [List.mem_singleton] at hm; rw [hm]; exact hx)
  · exact List.mem_flatMap.2 ⟨_, List.getElem_mem hk, hσ⟩

/-- The cells that a slice's literal is made of. -/
theorem lits_rel {S : Stats} {γ : Ghost} {w : World} {sz : Nat} : ∀ {xs : List V} {vs : List Value}, vs.length = xs.length → (∀ k (h1 : k < xs.length) (h2 : k < vs.length), VRel S γ w xs[k] vs[k]) →
    (∀ x ∈ xs, x.cells.length = sz ∧ x.okEl = true ∧ ∀ σ ∈ x.stamps, lookS S σ = some .imm) →
    (vs.flatMap (·.cells.toList)).length = (flat (xs.map V.er)).length ∧ (∀ k (h : k < (flat (xs.map V.er)).length) (h' : k < (vs.flatMap (·.cells.toList)).length), PRel γ.O w ((flat (xs.map V.er))[k]) ((vs.flatMap (·.cells.toList))[k])) ∧
    (∀ u ∈ vs.flatMap (·.cells.toList), u.oneCell' = true) ∧ (∀ x ∈ xs.map V.er, x.cells.length = sz) ∧ (∀ v ∈ vs, v.cells.size = sz)
  | [], vs, hl, hv, hx => by
    have : vs = [] := List.eq_nil_of_length_eq_zero hl
    subst this
    simp [flat]
  | x :: r, [], hl, hv, hx => by simp at hl
  | x :: r, v :: vs, hl, hv, hx => by
    obtain ⟨a1, a2, a3⟩ := hx x List.mem_cons_self
    have hv0 : VRel S γ w x v := hv 0 (by simp) (by simp)
    obtain ⟨e1, e2, e3⟩ := hv0.er a2 a3
    obtain ⟨i1, i2, i3, i4, i5⟩ := lits_rel (xs := r) (vs := vs) (by simpa using hl) (fun k h1 h2 => hv (k + 1) (by simpa using h1) (by simpa using h2)) (fun y hy => hx y (List.mem_cons_of_mem _ hy))
    have hlen : x.er.cells.length = sz := by rw [V.er_cells]; simpa using a1
    have hvl : v.cells.toList.length = x.er.cells.length := by simpa using e1
    refine ⟨?_, ?_, ?_, ?_, ?_⟩
    · rw [List.map_cons, flat_cons, List.flatMap_cons, List.length_append, List.length_append, i1, hvl]
    · intro k h h'
      simp only [List.map_cons, flat_cons, List.flatMap_cons] at h h' ⊢
      by_cases hk : k < x.er.cells.length
      · rw [List.getElem_append_left hk, List.getElem_append_left (by omega)]
        simpa using e2 k hk (by omega)
      · rw [List.getElem_append_right (by omega), List.getElem_append_right (by omega)]
        simp only [hvl]
        exact i2 _ _ _
    · intro u hu
      rw [List.flatMap_cons, List.mem_append] at hu
      rcases hu with hu | hu
      · exact e3 u (by simpa using hu)
      · exact i3 u hu
    · intro y hy
      rw [List.map_cons, List.mem_cons] at hy
      rcases hy with rfl | hy
      · exact hlen
      · exact i4 y hy
    · intro u hu
      rcases List.mem_cons.1 hu with rfl | hu
      · omega
      · exact i5 u hu

theorem stripLits_rel (h : SRel L n K st γ a w) : ∀ (parts : List (Nat × Operand)) (l : List AX) (k : Nat), stripLits L k parts = some l →
    parts.length = l.length ∧ (∀ j (h1 : j < l.length) (h2 : j < parts.length), VRel st.stat γ w (st.val l[j]) (a.eval parts[j].2)) ∧ parts.map (·.1) = (List.range' k parts.length)
  | [], l, k, e => by simp [stripLits] at e; subst e; simp
  | (i, x) :: r, l, k, e => by
    simp only [stripLits] at e
    split at e
    · rename_i hi
      split at e
      · rename_i y l' e1 e2
        obtain rfl := Option.some.inj e
        obtain ⟨a1, a2, a3⟩ := stripLits_rel h r l' (k + 1) e2
        refine ⟨by simp [a1], fun j h1 h2 => ?_, by simp [a3, hi, List.range'_succ]⟩
        cases j with
        | zero => exact stripX_rel h e1
        | succ j => exact a2 j (by simpa using h1) (by simpa using h2)
      · cases e
    · cases e

/-- Filling a row from its head on, part by part. -/
theorem fill_row (sz : Nat) : ∀ (vs : List Value) (k : Nat) (cells : Array Value), (∀ v ∈ vs, v.cells.size = sz) → k * sz + vs.length * sz ≤ cells.size →
    ∃ us, Instr.fill (fun i => some (i * sz, sz)) cells (vs.zipIdx k |>.map fun (v, i) => (i, v)) = some us ∧ us.size = cells.size ∧
      ∀ j, us[j]? = if k * sz ≤ j ∧ j < k * sz + vs.length * sz then (vs.flatMap (·.cells.toList))[j - k * sz]? else cells[j]?
  | [], k, cells, hv, hb => ⟨cells, by simp [Instr.fill], rfl, fun j => by rw [if_neg]; simp⟩
  | v :: r, k, cells, hv, hb => by
    have h0 := hv v List.mem_cons_self
    simp only [List.length_cons, Nat.add_mul, Nat.one_mul] at hb
    have e : v.cells.zipIdx.foldl (fun cs (c, j) => cs.setIfInBounds (k * sz + j) c) cells = (v.cells.toList.zipIdx 0).foldl (fun cs (x : Value × Nat) => cs.setIfInBounds (k * sz + x.2) x.1) cells := by
      rw [← Array.foldl_toList, Array.toList_zipIdx]
    obtain ⟨f1, f2⟩ := foldl_set (k * sz) v.cells.toList 0 cells
    rw [← e] at f1 f2
    obtain ⟨us, g1, g2, g3⟩ := fill_row sz r (k + 1) (v.cells.zipIdx.foldl (fun cs (c, j) => cs.setIfInBounds (k * sz + j) c) cells) (fun y hy => hv y (List.mem_cons_of_mem _ hy)) (by rw [f1, Nat.add_mul]; omega)
    refine ⟨us, ?_, by rw [g2, f1], fun j => ?_⟩
    · simp only [List.zipIdx_cons, List.map_cons, Instr.fill]
      have hno : ¬ (v.cells.size ≠ sz ∨ k * sz + v.cells.size > cells.size) := by omega
      rw [if_neg (by simpa using hno)]
      exact g1
    · rw [g3, f2]
      simp only [Array.length_toList, List.length_cons, List.flatMap_cons, Nat.add_mul, Nat.one_mul, Nat.add_zero]
      by_cases h1 : k * sz + sz ≤ j ∧ j < k * sz + sz + r.length * sz
      · rw [if_pos h1, if_pos (by omega), List.getElem?_append_right (by simp; omega)]
        congr 1
        simp only [Array.length_toList]; omega
      · rw [if_neg h1]
        by_cases h2 : k * sz ≤ j ∧ j < k * sz + sz
        · rw [if_pos (by omega), if_pos (by omega), List.getElem?_append_left (by simp; omega)]
        · rw [if_neg (by omega), if_neg (by omega)]

theorem zeroCells_size {z : List V} {zv : Value} (h : constCells zv.cells.toList = some z) : zv.cells.size = z.length := by
  have := (constCells_rel h [] ⟨fun _ => none, fun _ => none, fun _ => none, fun _ => False⟩ default).1
  simpa using this

theorem elsOk_all {sz : Nat} {S : Stats} : ∀ {xs : List V}, elsOk sz S xs → ∀ x ∈ xs, x.cells.length = sz ∧ x.okEl = true ∧ aliveAll S x.stamps
  | [], _, x, hx => by simp at hx
  | y :: r, h, x, hx => by
    rcases List.mem_cons.1 hx with rfl | hx
    · exact ⟨h.1, h.2.1, h.2.2.1⟩
    · exact elsOk_all h.2.2.2 x hx

theorem aliveAll_mem {S : Stats} : ∀ {l : List Nat}, aliveAll S l → ∀ σ ∈ l, alive S σ
  | [], _, σ, h => by simp at h
  | x :: r, h, σ, hs => by
    rcases List.mem_cons.1 hs with rfl | hs
    · exact h.1
    · exact aliveAll_mem h.2 σ hs

theorem maxLen_big {m : Nat} (h : m ≤ 16777216) : m ≤ maxLen := by simp only [maxLen]; omega

theorem sound_lits (h : SRel L n K st γ a w) (hd : dst.ok L n) {t e : TypeId} {m s : Nat} {z : List V} {parts : Array (Nat × Operand)} {l : List AX} (hop : o.op = .buildSlice t m parts) (ht : P.underlying t = some (.slice e))
    (hs : sizeT P e = some s) (hz : zeroT P e = some z) (hl : stripLits L 0 parts.toList = some l) (hm : l.length = m ∧ m * s ≤ 16777216 ∧ z.length = s) (hs0 : 0 < s)
    {d : Nat} {p : Prop} {δ : Delta} (hδ : astep st d (.lits s l) = some (p, δ)) (hp : p) : Runs P L n K (δ.apply st dst) dst.toOpt o a w := by
  obtain ⟨rfl, hm2, rfl⟩ := hm
  obtain ⟨it, zv, z1, z2, z3⟩ := zeroT_some hz
  have hzs := zeroCells_size z3
  obtain ⟨r1, r2, r3⟩ := stripLits_rel h parts.toList l 0 hl
  simp only [astep, Option.some.injEq, Prod.mk.injEq] at hδ
  obtain ⟨rfl, rfl⟩ := hδ
  obtain ⟨p1, p2⟩ := hp
  have hels := elsOk_all p2
  generalize hxs : l.map st.val = xs at *
  have hxl : xs.length = l.length := by rw [← hxs]; simp
  let vs := parts.toList.map fun q => a.eval q.2
  have hvl : vs.length = xs.length := by simp only [vs, List.length_map]; omega
  have hal : ∀ σ ∈ xs.flatMap V.stamps, alive st.stat σ := by
    intro σ hσ
    obtain ⟨x, hx, hσ⟩ := List.mem_flatMap.1 hσ
    exact aliveAll_mem (hels x hx).2.2 σ hσ
  obtain ⟨γ1, h1, ev1⟩ := demote h hal
  have hvr : ∀ k (q1 : k < xs.length) (q2 : k < vs.length), VRel (toImm (xs.flatMap V.stamps) ++ st.stat) γ1 w xs[k] vs[k] := by
    intro k q1 q2
    refine VRel.evo ev1 ?_
    simp only [vs, List.getElem_map, ← hxs]
    exact r2 k (by omega) (by omega)
  obtain ⟨i1, i2, i3, i4, i5⟩ := lits_rel (sz := z.length) hvl hvr (fun x hx => ⟨(hels x hx).1, (hels x hx).2.1, fun σ hσ => by
    rw [lookS_toImm, if_pos (List.mem_flatMap.2 ⟨x, hx, hσ⟩)]⟩)
  have hlf := length_flat i4
  rw [List.length_map] at hlf
  have hm3 : vs.length * z.length = l.length * z.length := by rw [hvl, hxl]
  have hm4 : xs.length * z.length = l.length * z.length := by rw [hxl]
  obtain ⟨us, g1, g2, g3⟩ := fill_row z.length vs 0 ((Array.range (l.length * z.length)).map (zv.cells[· % zv.cells.size]!)) i5 (by simp only [Array.size_map, Array.size_range]; omega)
  have hfresh : lookS (toImm (xs.flatMap V.stamps) ++ st.stat) (16 * d) = none := by
    rw [lookS_toImm, if_neg]
    · exact p1
    · intro hm; have := hal _ hm; simp [alive, p1] at this
  have hus : ∀ k, k < (vs.flatMap (·.cells.toList)).length → us[k]? = (vs.flatMap (·.cells.toList))[k]? := by
    intro k hk
    rw [g3, if_pos]
    · simp
    · rw [i1, hlf] at hk; simp only [Nat.zero_mul, Nat.zero_add]; omega
  obtain ⟨γ2, h2⟩ := new_own h1 hd hfresh (pushed_alloc w (.cells us e)) (xs := xs.map V.er) (sz := z.length) (cap := xs.length) (us := vs.flatMap (·.cells.toList)) (by simp)
    (by
      have : xs.length * 1 ≤ l.length * z.length := by rw [hxl]; exact Nat.mul_le_mul_left _ hs0
      exact maxLen_big (by omega)) i4 i1 hus i3 i2 (by rw [g2]; simp [hxl]) (cl := .n)
  have hbs : (Instr.buildSlice t l.length (parts.map fun (i, x) => (i, a.eval x))).run P w = .ok (.slice (some ⟨w.heap.size, 0, none⟩) l.length l.length) (w.alloc (.cells us e)) := by
    have hparts : (parts.map fun (i, x) => (i, a.eval x)).toList = (vs.zipIdx 0).map fun (v, i) => (i, v) := by
      apply List.ext_getElem?
      intro j
      have hj3 := congrArg (fun (q : List Nat) => q[j]?) r3
      simp only [Array.toList_map, List.getElem?_map, vs, List.getElem?_zipIdx]
      by_cases hj : j < parts.toList.length
      · simp only [List.getElem?_map, List.getElem?_eq_getElem hj, Option.map_some] at hj3 ⊢
        rw [List.getElem?_range' hj] at hj3
        simp at hj3
        simp [hj3]
      · simp [List.getElem?_eq_none (Nat.le_of_not_lt hj)]
    rw [← hparts] at g1
    have hsz : (sizeOf e).run P w = .ok z.length w := run_sizeT hs w
    have hno : ¬ (16777216 < l.length * z.length) := by omega
    simp only [Instr.buildSlice, Sem.run_bind, run_underlying ht, Result.andThen, hsz]
    rw [if_neg (show ¬ (l.length * z.length > 2 ^ 24) from by omega)]
    by_cases h0 : l.length * z.length = 0
    · rw [if_pos h0]
      have e0 : ∀ f : Nat → Value, (Array.range (l.length * z.length)).map f = #[] := by intro f; rw [h0]; simp
      rw [e0] at g1
      simp only [Sem.run_bind, Sem.run_pure, Result.andThen, e0, g1]
      simp [newRow]
    · rw [if_neg h0]
      have hz2 : (zeroValue e).run P w = .ok zv w := by simp [zeroValue, typeInfo, z1, z2]
      simp only [Sem.run_bind, Sem.run_pure, Result.andThen, hz2, g1]
      simp [newRow]
  refine ⟨.slice (some ⟨w.heap.size, 0, none⟩) l.length l.length, w.alloc (.cells us e), γ2, .inl ?_, ?_⟩
  · rw [show execOp a.eval o = (do pure (Next.value (← Instr.buildSlice t l.length (parts.map fun (i, x) => (i, a.eval x))))) from by simp only [execOp, hop]]
    exact exec_value hbs
  · have e1 : (xs.map V.er).length = l.length := by simp [hxl]
    rw [e1, hxl] at h2
    rw [hxl]
    exact h2

end ops
end

end Go.Proofs.YtnhhcfbigjpfeaaDoor
