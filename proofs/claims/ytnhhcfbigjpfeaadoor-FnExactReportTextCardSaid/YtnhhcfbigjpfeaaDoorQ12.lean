/-
  A statement of straight code, its operations in the order of the text: what the abstract machine does, the model does.
-/
import Derived.Test.YtnhhcfbigjpfeaaDoorQ11
namespace Go.Proofs.YtnhhcfbigjpfeaaDoor
set_option linter.all false

section

def AOp.on (o : AOp) (st : St) : Option Bool :=
  match o.guard with
  | none => some true
  | some (x, want) => match st.val x with
    | .bool b => some (b == want)
    | .tup [] => some false
    | _ => none

def oldsM : Mp → List Nat
  | [] => []
  | (_, some σ, _, _) :: r => σ :: oldsM r
  | (_, none, _, _) :: r => oldsM r

def newB (d : Nat) : Option Nat → List Nat
  | none => []
  | some _ => [d]

/-- The stamps in variables. -/
def boxStamps (bx : List (Nat × List V)) : Bm → List Nat
  | [] => []
  | (_, b) :: r => (match lookB bx b with
    | some cs => cs.flatMap V.stamp1
    | none => []) ++ boxStamps bx r

/-- A call that is answered by a contract: what it changes, and which variables and stamps it looks at. -/
inductive CallTo (P : Program) (f : Nat) (xs : List V) (st : St) (d : Nat) : Delta → List Nat → List Nat → Prop
  | gen {as : List V} {R : V} {bi bo : List (List V)} {M : Mp} {B : Bm} {D E : List Nat} {nn : Option Nat}
      (hf : Fn P f as bi R bo) (hD : aliveAll st.stat D) (hM : okM (toImm D ++ st.stat) M) (hMs : ∀ k, lookS (statM M) k = lookS (argStat as bi) k) (hN : okN (withNew B d nn)) (hNB : okN B)
      (hx : relAs M (toImm D ++ st.stat) (some E) B xs as) (hb : okB M (toImm D ++ st.stat) (some E) st.box B (boxesOf bi)) (hb2 : hasB (boxesOf bi) B)
      (hE : E = [] ∨ noref R bo) (hR : R.okR = true) (hbo : bo.all (fun b => b.all V.okR1) = true) (hr1 : hasB (boxesOf bo) (withNew B d nn)) (hr2 : hasN (withNew B d nn) (boxesOf bo))
      (hnew : nn ≠ none → lookB st.box d = none) (hfr : freshAll d st.stat (resStat R bo)) :
      CallTo P f xs st d { val := R.ren (withNew B d nn) d, nb := renBoxes (withNew B d nn) d (boxesOf bo), ns := rsS d (resStat R bo) ++ (deadM M ++ toImm D) } (B.map (·.2) ++ newB d nn)
        ((rsS d (resStat R bo)).map (·.1) ++ (D ++ (oldsM M ++ (xs.flatMap V.stamps ++ boxStamps st.box B))))

/-- A function that can be called through a value. -/
def Named (P : Program) (f : Nat) : Prop :=
  ∃ fn, P.funcs[f]? = some fn ∧ fn.body.isSome = true ∧ (fn.name == "runtime.NumGoroutine") = false

/-- One operation of the abstract machine. -/
inductive AStep (P : Program) (st : St) (o : AOp) : Delta → Prop
  | skip (h : o.on st = some false) : AStep P st o { val := .tup [] }
  | op {p : Prop} {δ : Delta} (h : o.on st = some true) (hδ : astep st o.dst.num o.op = some (p, δ)) (hp : p) : AStep P st o δ
  | call {f : Nat} {xs : List AX} {δ : Delta} {rb rs : List Nat} (h : o.on st = some true) (ho : o.op = .call f xs) (hc : CallTo P f (xs.map st.val) st o.dst.num δ rb rs) : AStep P st o δ
  | callv {F : AX} {f : Nat} {caps : List V} {xs : List AX} {δ : Delta} {rb rs : List Nat} (h : o.on st = some true) (ho : o.op = .callv F xs) (hF : st.val F = .fn f caps) (hn : Named P f)
      (hc : CallTo P f (xs.map st.val ++ caps) st o.dst.num δ rb rs) : AStep P st o δ
  | eld {m i j b l s : Nat} {y x : AX} {σ sz : Nat} {xs cs0 : List V} (h : o.on st = some true) (ho : o.op = .store m y x) (hY : st.val y = .elp (.sl (some σ) sz xs) i j) (hs : lookS st.stat σ = some (.own xs.length sz)) (hi : i < xs.length) (hj : j + m ≤ sz) (h0 : 0 < m)
      (hel : (st.val x).okEl = true) (hcl : (st.val x).cells.length = m) (hσ : (st.val x).stamps = []) (hb : lookB st.box b = some cs0) (hl : cs0[l]? = some (.sl (some σ) sz xs)) (hs2 : lookS st.stat s = none) :
      AStep P st o { val := .undef, nb := [(b, cs0.set l (.sl (some s) sz (setEl i j (st.val x).er.cells xs)))], ns := [(σ, some .dead), (s, some (.own xs.length sz))] }

/-- A call whose effect on its caller's state is known by itself. -/
def CallEff (P : Program) (f : Nat) (xs : List V) (st : St) (R : V) (st' : St) : Prop :=
  ∀ (L : Nat → Bool) (n : Nat) (K : Ctx) (γ : Ghost) (a : Act) (w : World) (vs : List Value), K.ok → SRel L n K st γ a w → vs.length = xs.length → (∀ k (h1 : k < xs.length) (h2 : k < vs.length), VRel st.stat γ w xs[k] vs[k]) →
    Calls P f vs.toArray w fun e w' => ∃ v, e = .returned v ∧ ∃ γ', SRel L n K st' γ' a w' ∧ VRel st'.stat γ' w' R v

/-- One operation of the abstract machine in a statement of one order. -/
inductive AStepS (P : Program) (st : St) (o : AOp) : St → Prop
  | base {δ : Delta} (h : AStep P st o δ) : AStepS P st o (δ.apply st o.dst)
  | el {m i j : Nat} {y x : AX} {σ sz : Nat} {xs : List V} (h : o.on st = some true) (ho : o.op = .store m y x) (hY : st.val y = .elp (.sl (some σ) sz xs) i j) (hs : lookS st.stat σ = some (.own xs.length sz)) (hi : i < xs.length) (hj : j + m ≤ sz) (h0 : 0 < m)
      (hel : (st.val x).okEl = true) (hcl : (st.val x).cells.length = m) (hσ : σ ∉ (st.val x).stamps) (hal : aliveAll st.stat (st.val x).stamps) :
      AStepS P st o ((st.wr σ xs.length i j (st.val x).er.cells (st.val x).stamps).put o.dst .undef)
  | eff {f : Nat} {xs : List AX} {R : V} {st' : St} (h : o.on st = some true) (ho : o.op = .call f xs) (hc : CallEff P f (xs.map st.val) st R st') : AStepS P st o (st'.put o.dst R)
  | effv {F : AX} {f : Nat} {caps : List V} {xs : List AX} {R : V} {st' : St} (h : o.on st = some true) (ho : o.op = .callv F xs) (hF : st.val F = .fn f caps) (hn : Named P f) (hc : CallEff P f (xs.map st.val ++ caps) st R st') : AStepS P st o (st'.put o.dst R)

def stripGuard (L : Nat → Bool) (ops : Array Oper) : Option (Nat × Bool) → Option (Option (AX × Bool))
  | none => some none
  | some (j, want) => match (ops[j]?).bind (·.dst) with
    | some d => some (some (if L d then .l d else .g d, want))
    | none => none

def callable (P : Program) : AO → Bool
  | .call f _ => match P.funcs[f]? with
    | some fn => fn.body.isSome && fn.name != "runtime.NumGoroutine"
    | none => false
  | _ => true

def stripOp (P : Program) (L : Nat → Bool) (n : Nat) (ops : Array Oper) (o : Oper) : Option AOp :=
  match stripD L n o.dst, stripO P L o.op, stripGuard L ops o.guard with
  | some d, some op, some g => if callable P op then some { dst := d, op := op, guard := g } else none
  | _, _, _ => none

section
variable {P : Program} {L : Nat → Bool} {n : Nat} {K : Ctx} {st : St} {γ : Ghost} {a : Act} {w : World} {o : Oper}

theorem stripD_ok {x : Option Tmp} {d : AD} (h : stripD L n x = some d) : d.ok L n ∧ d.toOpt = x := by
  unfold stripD at h
  split at h
  · obtain rfl := Option.some.inj h; exact ⟨trivial, rfl⟩
  · split at h
    · rename_i d' hd
      obtain rfl := Option.some.inj h
      by_cases e : L d' = true
      · simp [e, AD.ok, AD.toOpt, hd]
      · simp [e, AD.ok, AD.toOpt, hd]
    · cases h

theorem on_wanted (h : SRel L n K st γ a w) {ops : Array Oper} {o : Oper} {g : Option (AX × Bool)} {ao : AOp} (hg : stripGuard L ops o.guard = some ao.guard) {b : Bool} (hon : ao.on st = some b) :
    Region.wanted o (yielded ops a.tmps) = b := by
  unfold AOp.on at hon
  unfold stripGuard at hg
  unfold Region.wanted
  split at hg
  · rename_i e
    obtain e2 := Option.some.inj hg
    rw [← e2] at hon
    simpa [e] using hon
  · rename_i j want e
    split at hg
    · rename_i d hd
      obtain e2 := Option.some.inj hg
      rw [← e2] at hon
      simp only at hon
      split at hon
      · rename_i b' hb
        have hv := h.val d
        rw [hb] at hv
        have hv2 := hv.bool_inv
        have hy : yielded ops a.tmps j = some b' := by
          unfold yielded
          rw [hd]
          simp only [Act.eval] at hv2
          have : a.tmps[d]? = some (.bool b') := by
            rw [Array.getD_eq_getD_getElem?] at hv2
            cases e3 : a.tmps[d]? with
            | none => rw [e3] at hv2; simp [undef] at hv2
            | some v => rw [e3] at hv2; simpa using hv2
          simp [this]
        simp only [e, hy]
        simpa using hon
      · rename_i hb
        have hv := h.val d
        rw [hb] at hv
        have hv2 := hv.tup0_inv
        have hy : yielded ops a.tmps j = none := by
          unfold yielded
          rw [hd]
          simp only [Act.eval] at hv2
          cases e3 : a.tmps[d]? with
          | none => simp only [Option.bind_some, e3]
          | some v =>
            rw [Array.getD_eq_getD_getElem?, e3] at hv2
            simp only [Option.getD_some] at hv2
            simp only [Option.bind_some, e3, hv2]
        simp only [e, hy]
        simpa using hon
      · cases hon
    · cases hg

theorem strip_builtin_call {b : Builtin} {l : List AX} {ts : List TypeId} {f : Nat} {xs : List AX} (h : stripBuiltin P L b l ts = some (.call f xs)) : False := by
  unfold stripBuiltin at h
  split at h
  · split at h <;> simp at h
  · simp at h
  · simp at h
  · split at h
    · split at h
      · split at h
        · split at h <;> simp at h
        · simp at h
      · simp at h
    · split at h
      · split at h
        · split at h <;> simp at h
        · simp at h
      · simp at h
    · simp at h
  · simp at h

theorem stripX_func {X : Operand} {f : Nat} (h : stripX L X = some (.f f)) : X = .func f := by
  cases X with
  | tmp t => simp only [stripX, Option.some.injEq] at h; split at h <;> cases h
  | const v => simp only [stripX] at h; split at h <;> simp at h
  | global g => simp [stripX] at h
  | func g => simp [stripX] at h; rw [h]

theorem strip_call {op : Op} {f : Nat} {xs : List AX} (h : stripO P L op = some (.call f xs)) : ∃ args ats, op = .call { callee := .value (.func f), args := args, argTypes := ats } ∧ stripXs L args.toList = some xs := by
  cases op <;> simp only [stripO] at h
  case call c =>
    obtain ⟨cal, args, ats⟩ := c
    cases cal with
    | builtin b =>
      simp only at h
      split at h
      · exact (strip_builtin_call h).elim
      · cases h
    | value F =>
      simp only at h
      split at h
      · rename_i g l e1 e2
        simp only [Option.some.injEq, AO.call.injEq] at h
        obtain ⟨rfl, rfl⟩ := h
        exact ⟨args, ats, by rw [stripX_func e1], e2⟩
      · simp at h
      · cases h
    | invoke r m => simp at h
  case move x => simp at h
  case assign x => simp at h
  case pick c x y => (repeat' split at h) <;> simp at h
  case alloc t => (repeat' split at h) <;> simp at h
  case box t x => simp at h
  case build t ps => (repeat' split at h) <;> simp at h
  case buildSlice t m ps => (repeat' split at h) <;> simp at h
  case load t x => (repeat' split at h) <;> simp at h
  case store t x y => (repeat' split at h) <;> simp at h
  case nilCheck x => simp at h
  case binOp bop t x y t' => (repeat' split at h) <;> simp at h
  case unOp uop t x => simp at h
  case convert s t x => (repeat' split at h) <;> simp at h
  case makeFunc fn fs cs =>
    cases fn <;> simp only [] at h <;> first | (split at h <;> simp at h) | simp at h
  case makeSlice t x y => (repeat' split at h) <;> simp at h
  case slice t x lo hi mx =>
    cases mx <;> simp only [] at h <;> first | ((repeat' split at h) <;> simp at h) | simp at h
  case fieldAddr t x k => (repeat' split at h) <;> simp at h
  case field t x k => (repeat' split at h) <;> simp at h
  case indexAddr t x y => (repeat' split at h) <;> simp at h
  case index t x y => (repeat' split at h) <;> simp at h
  case extract x k => simp at h
  all_goals simp at h

theorem strip_builtin_callv {b : Builtin} {l : List AX} {ts : List TypeId} {f : AX} {xs : List AX} (h : stripBuiltin P L b l ts = some (.callv f xs)) : False := by
  unfold stripBuiltin at h
  split at h
  · split at h <;> simp at h
  · simp at h
  · simp at h
  · split at h
    · split at h
      · split at h
        · split at h <;> simp at h
        · simp at h
      · simp at h
    · split at h
      · split at h
        · split at h <;> simp at h
        · simp at h
      · simp at h
    · simp at h
  · simp at h

theorem strip_callv {op : Op} {F : AX} {xs : List AX} (h : stripO P L op = some (.callv F xs)) : ∃ X args ats, op = .call { callee := .value X, args := args, argTypes := ats } ∧ stripX L X = some F ∧ stripXs L args.toList = some xs := by
  cases op <;> simp only [stripO] at h
  case call c =>
    obtain ⟨cal, args, ats⟩ := c
    cases cal with
    | builtin b =>
      simp only at h
      split at h
      · exact (strip_builtin_callv h).elim
      · cases h
    | value X =>
      simp only at h
      split at h
      · simp at h
      · rename_i g l e1 e2 e3
        simp only [Option.some.injEq, AO.callv.injEq] at h
        obtain ⟨rfl, rfl⟩ := h
        exact ⟨X, args, ats, rfl, e2, e3⟩
      · cases h
    | invoke r m => simp at h
  case move x => simp at h
  case assign x => simp at h
  case pick c x y => (repeat' split at h) <;> simp at h
  case alloc t => (repeat' split at h) <;> simp at h
  case box t x => simp at h
  case build t ps => (repeat' split at h) <;> simp at h
  case buildSlice t m ps => (repeat' split at h) <;> simp at h
  case load t x => (repeat' split at h) <;> simp at h
  case store t x y => (repeat' split at h) <;> simp at h
  case nilCheck x => simp at h
  case binOp bop t x y t' => (repeat' split at h) <;> simp at h
  case unOp uop t x => simp at h
  case convert s t x => (repeat' split at h) <;> simp at h
  case makeFunc fn fs cs =>
    cases fn <;> simp only [] at h <;> first | (split at h <;> simp at h) | simp at h
  case makeSlice t x y => (repeat' split at h) <;> simp at h
  case slice t x lo hi mx =>
    cases mx <;> simp only [] at h <;> first | ((repeat' split at h) <;> simp at h) | simp at h
  case fieldAddr t x k => (repeat' split at h) <;> simp at h
  case field t x k => (repeat' split at h) <;> simp at h
  case indexAddr t x y => (repeat' split at h) <;> simp at h
  case index t x y => (repeat' split at h) <;> simp at h
  case extract x k => simp at h
  all_goals simp at h

theorem CallTo.calls (hK : K.ok) (h : SRel L n K st γ a w) {dst : AD} (hd : dst.ok L n) {f : Nat} {xs : List V} {vs : List Value} {δ : Delta} {rb rs : List Nat} (hc : CallTo P f xs st dst.num δ rb rs) (hvl : vs.length = xs.length)
    (hv : ∀ k (h1 : k < xs.length) (h2 : k < vs.length), VRel st.stat γ w xs[k] vs[k]) :
    Calls P f vs.toArray w fun e w' => ∃ v, e = .returned v ∧ ∃ γ', SRel L n K (δ.apply st dst) γ' (a.put dst.toOpt v) w' := by
  cases hc with
  | gen hf hD hM hMs hN hNB hx hb hb2 hE hR hbo hr1 hr2 hnew hfr => exact call_gen hK h hd hf hvl hv hD hM hMs hN hNB hx hb hb2 hE hR hbo hr1 hr2 hnew hfr

theorem strip_store {op : Op} {m : Nat} {y x : AX} (h : stripO P L op = some (.store m y x)) : ∃ t A X, op = .store t A X ∧ sizeT P t = some m ∧ stripX L A = some y ∧ stripX L X = some x := by
  cases op <;> simp only [stripO] at h
  case store t A X =>
    split at h <;> first | (simp only [Option.some.injEq, AO.store.injEq] at h; obtain ⟨rfl, rfl, rfl⟩ := h) | cases h
    exact ⟨t, A, X, rfl, ‹_›, ‹_›, ‹_›⟩
  case call c =>
    obtain ⟨cal, args, ats⟩ := c
    cases cal with
    | builtin b =>
      simp only at h
      split at h
      · exfalso
        unfold stripBuiltin at h
        (repeat' split at h) <;> simp at h
      · cases h
    | value F =>
      simp only at h
      split at h <;> simp at h
    | invoke r m => simp at h
  case move x => simp at h
  case assign x => simp at h
  case pick c x y => (repeat' split at h) <;> simp at h
  case alloc t => (repeat' split at h) <;> simp at h
  case box t x => simp at h
  case build t ps => (repeat' split at h) <;> simp at h
  case buildSlice t m ps => (repeat' split at h) <;> simp at h
  case load t x => (repeat' split at h) <;> simp at h
  case nilCheck x => simp at h
  case binOp bop t x y t' => (repeat' split at h) <;> simp at h
  case unOp uop t x => simp at h
  case convert s t x => (repeat' split at h) <;> simp at h
  case makeFunc fn fs cs =>
    cases fn <;> simp only [] at h <;> first | (split at h <;> simp at h) | simp at h
  case makeSlice t x y => (repeat' split at h) <;> simp at h
  case slice t x lo hi mx =>
    cases mx <;> simp only [] at h <;> first | ((repeat' split at h) <;> simp at h) | simp at h
  case fieldAddr t x k => (repeat' split at h) <;> simp at h
  case field t x k => (repeat' split at h) <;> simp at h
  case indexAddr t x y => (repeat' split at h) <;> simp at h
  case index t x y => (repeat' split at h) <;> simp at h
  case extract x k => simp at h
  all_goals simp at h

/-- What one operation leads to, as the model's wp has it. -/
theorem AStep.wp (hK : K.ok) (h : SRel L n K st γ a w) {ops : Array Oper} {i : Nat} (hi : ops[i]? = some o) {ao : AOp} (hs : stripOp P L n ops o = some ao) {δ : Delta} (hst : AStep P st ao δ) {Q : Exit → Act → World → Prop} {Kt : Act → World → Prop}
    (hk : ∀ γ' a' w', SRel L n K (δ.apply st ao.dst) γ' a' w' → Kt a' w') : wpOp P ops Q i Kt a w := by
  unfold stripOp at hs
  split at hs <;> try (cases hs; done)
  rename_i d op g hd ho hg
  split at hs <;> try (cases hs; done)
  rename_i hcall
  obtain rfl := Option.some.inj hs
  obtain ⟨hdok, hdo⟩ := stripD_ok hd
  unfold wpOp
  rw [hi]
  simp only
  cases hst with
  | skip hon =>
    rw [on_wanted h (g := g) (ao := { dst := d, op := op, guard := g }) hg hon]
    simp only [Bool.false_eq_true, if_false]
    refine hk γ _ _ ?_
    have := h.pure hdok (x := .tup []) (v := undef) VRel.skip
    rw [hdo] at this
    exact this
  | @op p δ hon hδ hp =>
    rw [on_wanted h (g := g) (ao := { dst := d, op := op, guard := g }) hg hon]
    simp only [if_true]
    refine .inl ?_
    obtain ⟨v, w', γ', hr, hsr⟩ := sound_op h hdok ho hδ hp
    rw [hdo] at hsr
    unfold Oper.wp
    rcases hr with hr | ⟨hr, rfl⟩
    · rw [hr]; exact hk _ _ _ hsr
    · rw [hr]; exact hk _ _ _ hsr
  | @call f xs δ rb rs hon ho' hcall2 =>
    rw [on_wanted h (g := g) (ao := { dst := d, op := op, guard := g }) hg hon]
    simp only [if_true]
    refine .inl ?_
    simp only at ho'
    subst ho'
    simp only [callable] at hcall
    split at hcall <;> try (cases hcall; done)
    rename_i fn hfn
    simp only [Bool.and_eq_true, bne_iff_ne, ne_eq] at hcall
    obtain ⟨args, ats, hop, hxs⟩ := strip_call ho
    obtain ⟨x1, x2⟩ := stripXs_rel h hxs
    have hargs : ∀ k (q1 : k < (xs.map st.val).length) (q2 : k < (args.toList.map a.eval).length), VRel st.stat γ w (xs.map st.val)[k] (args.toList.map a.eval)[k] := fun k q1 q2 => by
      have := x2 k (by simpa using q1) (by simpa using q2)
      simpa using this
    have hcp := hcall2.calls hK h hdok (by simp [x1]) hargs
    rw [hdo] at hcp
    unfold Oper.wp
    have hrun : (execOp a.eval o).run P w = .ok (.enter f (args.toList.map a.eval).toArray) w := by
      have hn : (fn.name == "runtime.NumGoroutine") = false := by simpa using hcall.2
      have hb : fn.body.isNone = false := by
        cases e : fn.body with
        | none => rw [e] at hcall; simp at hcall
        | some c => rfl
      have harr : args.map a.eval = (args.toList.map a.eval).toArray := toArray_eval args a.eval
      simp only [execOp, hop, resolve, Deferred.ofValue, Act.eval, Sem.run_bind, Sem.run_pure, Result.andThen, invoke, callFunc, Sem.run, program, hfn, hn, hb, Bool.false_eq_true, if_false]
      rw [harr]
      simp
    rw [hrun]
    simp only [Oper.upon]
    refine hcp.mono fun e w' hex => ?_
    obtain ⟨v, rfl, γ', hsr⟩ := hex
    exact hk _ _ _ hsr
  | @callv F f caps xs δ rb rs hon ho' hF hnm hcall2 =>
    rw [on_wanted h (g := g) (ao := { dst := d, op := op, guard := g }) hg hon]
    simp only [if_true]
    refine .inl ?_
    simp only at ho'
    subst ho'
    obtain ⟨fn, hfn, hbody, hname⟩ := hnm
    obtain ⟨X, args, ats, hop, hX, hxs⟩ := strip_callv ho
    obtain ⟨x1, x2⟩ := stripXs_rel h hxs
    have hFv := stripX_rel h hX
    rw [hF] at hFv
    obtain ⟨us, hXv, hul, hue⟩ := hFv.fn_inv
    have hargs : ∀ k (q1 : k < (xs.map st.val ++ caps).length) (q2 : k < (args.toList.map a.eval ++ us).length), VRel st.stat γ w (xs.map st.val ++ caps)[k] (args.toList.map a.eval ++ us)[k] := fun k q1 q2 => by
      by_cases q : k < (xs.map st.val).length
      · have q' : k < (args.toList.map a.eval).length := by simp [← x1] at q ⊢; omega
        rw [List.getElem_append_left q, List.getElem_append_left q']
        have := x2 k (by simpa using q) (by simpa using q')
        simpa using this
      · have q' : ¬ k < (args.toList.map a.eval).length := by simp [← x1] at q ⊢; omega
        rw [List.getElem_append_right (by omega), List.getElem_append_right (by omega)]
        have e : (args.toList.map a.eval).length = (xs.map st.val).length := by simp [← x1]
        have := hue (k - (xs.map st.val).length) (by simp at q1 q ⊢; omega) (by simp [← x1] at q2 q ⊢; omega)
        simp only [e]
        exact this
    have hcp := hcall2.calls hK h hdok (by simp [x1, hul]) hargs
    rw [hdo] at hcp
    unfold Oper.wp
    have hrun : (execOp a.eval o).run P w = .ok (.enter f (args.toList.map a.eval ++ us).toArray) w := by
      have hb : fn.body.isNone = false := by
        cases e : fn.body with
        | none => rw [e] at hbody; simp at hbody
        | some c => rfl
      have harr : args.map a.eval = (args.toList.map a.eval).toArray := toArray_eval args a.eval
      simp only [execOp, hop, resolve, Deferred.ofValue, hXv, Sem.run_bind, Sem.run_pure, Result.andThen, invoke, callFunc, Sem.run, program, hfn, hname, hb, Bool.false_eq_true, if_false]
      rw [harr]
      simp
    rw [hrun]
    simp only [Oper.upon]
    refine hcp.mono fun e w' hex => ?_
    obtain ⟨v, rfl, γ', hsr⟩ := hex
    exact hk _ _ _ hsr
  | @eld m i2 j b l s y x σ sz xs cs0 hon ho2 hY hS hi2 hj h0 hel hcl hσ hb hl hs2 =>
    rw [on_wanted h (g := g) (ao := { dst := d, op := op, guard := g }) hg hon]
    simp only [if_true]
    refine .inl ?_
    simp only at ho2
    subst ho2
    obtain ⟨t, A, X, e1, e2, e3, e4⟩ := strip_store ho
    obtain ⟨v, w', γ', hr, hsr⟩ := sound_eld (o := o) h hdok e1 e2 e3 e4 hY hS hi2 hj h0 hel hcl hσ hb hl hs2
    rw [hdo] at hsr
    unfold Oper.wp
    rcases hr with hr | ⟨hr, rfl⟩
    · rw [hr]; exact hk _ _ _ hsr
    · rw [hr]; exact hk _ _ _ hsr

/-- What one operation leads to, as the model's wp has it. -/
theorem AStepS.wp (hK : K.ok) (h : SRel L n K st γ a w) {ops : Array Oper} {i : Nat} (hi : ops[i]? = some o) {ao : AOp} (hs : stripOp P L n ops o = some ao) {st' : St} (hst : AStepS P st ao st') {Q : Exit → Act → World → Prop} {Kt : Act → World → Prop}
    (hk : ∀ γ' a' w', SRel L n K st' γ' a' w' → Kt a' w') : wpOp P ops Q i Kt a w := by
  cases hst with
  | base hst => exact hst.wp hK h hi hs hk
  | @el m i2 j y x σ sz xs hon ho hY hS hi2 hj h0 hel hcl hσ hal =>
    unfold stripOp at hs
    split at hs <;> try (cases hs; done)
    rename_i d op g hd hop hg
    split at hs <;> try (cases hs; done)
    obtain rfl := Option.some.inj hs
    obtain ⟨hdok, hdo⟩ := stripD_ok hd
    unfold wpOp
    rw [hi]
    simp only
    rw [on_wanted h (g := g) (ao := { dst := d, op := op, guard := g }) hg hon]
    simp only [if_true]
    refine .inl ?_
    simp only at ho
    subst ho
    obtain ⟨t, A, X, e1, e2, e3, e4⟩ := strip_store hop
    obtain ⟨v, w', γ', hr, hsr⟩ := sound_elst (o := o) h hdok e1 e2 e3 e4 hY hS hi2 hj h0 hel hcl hσ hal
    rw [hdo] at hsr
    unfold Oper.wp
    rcases hr with hr | ⟨hr, rfl⟩
    · rw [hr]; exact hk _ _ _ hsr
    · rw [hr]; exact hk _ _ _ hsr
  | @eff f xs R st2 hon ho' hcall2 =>
    unfold stripOp at hs
    split at hs <;> try (cases hs; done)
    rename_i d op g hd ho hg
    split at hs <;> try (cases hs; done)
    rename_i hcall
    obtain rfl := Option.some.inj hs
    obtain ⟨hdok, hdo⟩ := stripD_ok hd
    unfold wpOp
    rw [hi]
    simp only
    rw [on_wanted h (g := g) (ao := { dst := d, op := op, guard := g }) hg hon]
    simp only [if_true]
    refine .inl ?_
    simp only at ho'
    subst ho'
    simp only [callable] at hcall
    split at hcall <;> try (cases hcall; done)
    rename_i fn hfn
    simp only [Bool.and_eq_true, bne_iff_ne, ne_eq] at hcall
    obtain ⟨args, ats, hop, hxs⟩ := strip_call ho
    obtain ⟨x1, x2⟩ := stripXs_rel h hxs
    have hargs : ∀ k (q1 : k < (xs.map st.val).length) (q2 : k < (args.toList.map a.eval).length), VRel st.stat γ w (xs.map st.val)[k] (args.toList.map a.eval)[k] := fun k q1 q2 => by
      have := x2 k (by simpa using q1) (by simpa using q2)
      simpa using this
    have hcp := hcall2 L n K γ a w _ hK h (by simp [x1]) hargs
    unfold Oper.wp
    have hrun : (execOp a.eval o).run P w = .ok (.enter f (args.toList.map a.eval).toArray) w := by
      have hn : (fn.name == "runtime.NumGoroutine") = false := by simpa using hcall.2
      have hb : fn.body.isNone = false := by
        cases e : fn.body with
        | none => rw [e] at hcall; simp at hcall
        | some c => rfl
      have harr : args.map a.eval = (args.toList.map a.eval).toArray := toArray_eval args a.eval
      simp only [execOp, hop, resolve, Deferred.ofValue, Act.eval, Sem.run_bind, Sem.run_pure, Result.andThen, invoke, callFunc, Sem.run, program, hfn, hn, hb, Bool.false_eq_true, if_false]
      rw [harr]
      simp
    rw [hrun]
    simp only [Oper.upon]
    refine hcp.mono fun e w' hex => ?_
    obtain ⟨v, rfl, γ', hsr, hvr⟩ := hex
    have hfin := hsr.pure hdok hvr
    rw [hdo] at hfin
    exact hk _ _ _ hfin
  | @effv F f caps xs R st2 hon ho' hF hnm hcall2 =>
    unfold stripOp at hs
    split at hs <;> try (cases hs; done)
    rename_i d op g hd ho hg
    split at hs <;> try (cases hs; done)
    rename_i hcall
    obtain rfl := Option.some.inj hs
    obtain ⟨hdok, hdo⟩ := stripD_ok hd
    unfold wpOp
    rw [hi]
    simp only
    rw [on_wanted h (g := g) (ao := { dst := d, op := op, guard := g }) hg hon]
    simp only [if_true]
    refine .inl ?_
    simp only at ho'
    subst ho'
    obtain ⟨fn, hfn, hbody, hname⟩ := hnm
    obtain ⟨X, args, ats, hop, hX, hxs⟩ := strip_callv ho
    obtain ⟨x1, x2⟩ := stripXs_rel h hxs
    have hFv := stripX_rel h hX
    rw [hF] at hFv
    obtain ⟨us, hXv, hul, hue⟩ := hFv.fn_inv
    have hargs : ∀ k (q1 : k < (xs.map st.val ++ caps).length) (q2 : k < (args.toList.map a.eval ++ us).length), VRel st.stat γ w (xs.map st.val ++ caps)[k] (args.toList.map a.eval ++ us)[k] := fun k q1 q2 => by
      by_cases q : k < (xs.map st.val).length
      · have q' : k < (args.toList.map a.eval).length := by simp [← x1] at q ⊢; omega
        rw [List.getElem_append_left q, List.getElem_append_left q']
        have := x2 k (by simpa using q) (by simpa using q')
        simpa using this
      · have q' : ¬ k < (args.toList.map a.eval).length := by simp [← x1] at q ⊢; omega
        rw [List.getElem_append_right (by omega), List.getElem_append_right (by omega)]
        have e : (args.toList.map a.eval).length = (xs.map st.val).length := by simp [← x1]
        have := hue (k - (xs.map st.val).length) (by simp at q1 q ⊢; omega) (by simp [← x1] at q2 q ⊢; omega)
        simp only [e]
        exact this
    have hcp := hcall2 L n K γ a w _ hK h (by simp [x1, hul]) hargs
    unfold Oper.wp
    have hrun : (execOp a.eval o).run P w = .ok (.enter f (args.toList.map a.eval ++ us).toArray) w := by
      have hb : fn.body.isNone = false := by
        cases e : fn.body with
        | none => rw [e] at hbody; simp at hbody
        | some c => rfl
      have harr : args.map a.eval = (args.toList.map a.eval).toArray := toArray_eval args a.eval
      simp only [execOp, hop, resolve, Deferred.ofValue, hXv, Sem.run_bind, Sem.run_pure, Result.andThen, invoke, callFunc, Sem.run, program, hfn, hname, hb, Bool.false_eq_true, if_false]
      rw [harr]
      simp
    rw [hrun]
    simp only [Oper.upon]
    refine hcp.mono fun e w' hex => ?_
    obtain ⟨v, rfl, γ', hsr, hvr⟩ := hex
    have hfin := hsr.pure hdok hvr
    rw [hdo] at hfin
    exact hk _ _ _ hfin

/-- What a store into an element asks, and what follows. -/
def elStore (st : St) (m : Nat) (s : V) (i j : Nat) (x : V) (d : AD) (k : St → Prop) : Prop :=
  match s with
  | .sl (some σ) sz xs => (lookS st.stat σ = some (.own xs.length sz) ∧ i < xs.length ∧ j + m ≤ sz ∧ 0 < m ∧ x.okEl = true ∧ x.cells.length = m ∧ σ ∉ x.stamps ∧ aliveAll st.stat x.stamps) ∧ k ((st.wr σ xs.length i j x.er.cells x.stamps).put d .undef)
  | _ => False

/-- An operation that is wanted. -/
def arun (P : Program) (o : AOp) (st : St) (k : St → Prop) : Prop :=
  match o.op with
  | .call f xs => (∃ δ rb rs, CallTo P f (xs.map st.val) st o.dst.num δ rb rs ∧ k (δ.apply st o.dst)) ∨ ∃ R st', CallEff P f (xs.map st.val) st R st' ∧ k (st'.put o.dst R)
  | .callv F xs => match st.val F with
    | .fn f caps => Named P f ∧ ((∃ δ rb rs, CallTo P f (xs.map st.val ++ caps) st o.dst.num δ rb rs ∧ k (δ.apply st o.dst)) ∨ ∃ R st', CallEff P f (xs.map st.val ++ caps) st R st' ∧ k (st'.put o.dst R))
    | _ => False
  | .store m y x => match st.val y with
    | .elp s i j => elStore st m s i j (st.val x) o.dst k
    | _ => match astep st o.dst.num (.store m y x) with
      | some (p, δ) => p ∧ k (δ.apply st o.dst)
      | none => False
  | op => match astep st o.dst.num op with
    | some (p, δ) => p ∧ k (δ.apply st o.dst)
    | none => False

/-- The operations of a statement, in the order of the text. -/
def aops (P : Program) : List AOp → St → (St → Prop) → Prop
  | [], st, Q => Q st
  | o :: r, st, Q => match o.guard with
    | none => arun P o st (fun st' => aops P r st' Q)
    | some (x, want) => match st.val x with
      | .bool b => if b = want then arun P o st (fun st' => aops P r st' Q) else aops P r (st.put o.dst (.tup [])) Q
      | .tup [] => aops P r (st.put o.dst (.tup [])) Q
      | _ => False

theorem elStore_step {o : AOp} {k : St → Prop} {m i j : Nat} {y x : AX} {s : V} (hon : o.on st = some true) (ho : o.op = .store m y x) (hY : st.val y = .elp s i j) (h : elStore st m s i j (st.val x) o.dst k) : ∃ st', AStepS P st o st' ∧ k st' := by
  unfold elStore at h
  split at h
  · obtain ⟨⟨h1, h2, h3, h4, h5, h6, h7, h8⟩, h9⟩ := h
    exact ⟨_, .el hon ho hY h1 h2 h3 h4 h5 h6 h7 h8, h9⟩
  · exact h.elim

theorem arun_step {o : AOp} {k : St → Prop} (hon : o.on st = some true) (h : arun P o st k) : ∃ st', AStepS P st o st' ∧ k st' := by
  unfold arun at h
  split at h
  · rcases h with ⟨δ, rb, rs, h1, h2⟩ | ⟨R, st', h1, h2⟩
    · exact ⟨_, .base (.call hon ‹_› h1), h2⟩
    · exact ⟨_, .eff hon ‹_› h1, h2⟩
  · split at h
    · rcases h with ⟨hn, ⟨δ, rb, rs, h1, h2⟩ | ⟨R, st', h1, h2⟩⟩
      · exact ⟨_, .base (.callv hon ‹_› ‹_› hn h1), h2⟩
      · exact ⟨_, .effv hon ‹_› ‹_› hn h1, h2⟩
    · exact h.elim
  · split at h
    · exact elStore_step hon ‹_› ‹_› h
    · split at h
      · rename_i p δ e
        refine ⟨_, .base (.op hon (p := p) (δ := δ) ?_ h.1), h.2⟩
        rw [‹o.op = _›]
        exact e
      · exact h.elim
  · split at h
    · exact ⟨_, .base (.op hon ‹_› h.1), h.2⟩
    · exact h.elim

theorem aops_step {o : AOp} {r : List AOp} {Q : St → Prop} (h : aops P (o :: r) st Q) : ∃ st', AStepS P st o st' ∧ aops P r st' Q := by
  simp only [aops] at h
  split at h
  · exact arun_step (by simp [AOp.on, *]) h
  · rename_i x want hg
    split at h
    · rename_i b hb
      by_cases e : b = want
      · rw [if_pos e] at h
        exact arun_step (by simp [AOp.on, hg, hb, e]) h
      · rw [if_neg e] at h
        exact ⟨_, .base (.skip (by simp [AOp.on, hg, hb, e])), h⟩
    · rename_i hb
      exact ⟨_, .base (.skip (by simp [AOp.on, hg, hb])), h⟩
    · exact h.elim

def stripOps (P : Program) (L : Nat → Bool) (n : Nat) (ops : Array Oper) : List Oper → Option (List AOp)
  | [] => some []
  | o :: r => match stripOp P L n ops o, stripOps P L n ops r with
    | some x, some l => some (x :: l)
    | _, _ => none

theorem stripOps_get {ops : Array Oper} : ∀ {os : List Oper} {l : List AOp}, stripOps P L n ops os = some l → os.length = l.length ∧ ∀ i (h1 : i < os.length) (h2 : i < l.length), stripOp P L n ops os[i] = some l[i]
  | [], l, h => by simp [stripOps] at h; subst h; exact ⟨rfl, fun i h => by simp at h⟩
  | o :: r, l, h => by
    simp only [stripOps] at h
    split at h
    · rename_i x l' e1 e2
      obtain rfl := Option.some.inj h
      obtain ⟨h1, h2⟩ := stripOps_get e2
      refine ⟨by simp [h1], fun i hi hi' => ?_⟩
      cases i with
      | zero => exact e1
      | succ i => exact h2 i (by simpa using hi) (by simpa using hi')
    · cases h

theorem aops_wp (hK : K.ok) {ops : Array Oper} {Q : Exit → Act → World → Prop} {Qa : St → Prop} (hq : ∀ st γ a w, SRel L n K st γ a w → Qa st → Q .normal a w) :
    ∀ (l : List AOp) (i : Nat), (∀ k (h : k < l.length), ∃ o, ops[i + k]? = some o ∧ stripOp P L n ops o = some l[k]) → ∀ {st γ a w}, SRel L n K st γ a w → aops P l st Qa → wpOps P ops Q (List.range' i l.length) a w
  | [], i, _, st, γ, a, w, hr, h => by simpa [wpOps] using hq st γ a w hr h
  | o :: r, i, hl, st, γ, a, w, hr, h => by
    obtain ⟨st', h1, h2⟩ := aops_step h
    obtain ⟨oo, e1, e2⟩ := hl 0 (by simp)
    rw [List.length_cons, List.range'_succ, wpOps_cons]
    refine AStepS.wp hK hr (o := oo) (by simpa using e1) e2 h1 (fun γ' a' w' hr' => ?_)
    refine aops_wp hK hq r (i + 1) (fun k hk => ?_) hr' h2
    obtain ⟨o2, f1, f2⟩ := hl (k + 1) (by simpa using hk)
    exact ⟨o2, by rw [show i + 1 + k = i + (k + 1) from by omega]; exact f1, by simpa using f2⟩

theorem SRel.unloc (h : SRel L n K st γ a w) : SRel L n K { st with loc := [] } γ a w :=
  ⟨h.h, h.e.defers, h.e.size, fun t => by
    have := h.e.slot t
    by_cases e : L t = true
    · simp only [e, if_true, look]; exact .base (.undef _)
    · simpa [e] using this⟩

theorem region_wp (hK : K.ok) {id : Nat} {ops : Array Oper} {l : List AOp} (hs : stripOps P L n ops ops.toList = some l) {Q : Exit → Act → World → Prop} (hr : SRel L n K st γ a w) {Qa : St → Prop}
    (hq : ∀ st γ a w, SRel L n K st γ a w → Qa st → Q .normal a w) (h : aops P l st (fun st' => Qa { st' with loc := [] })) : (Code.region id ops false).wp P Q a w := by
  obtain ⟨h1, h2⟩ := stripOps_get hs
  refine wp_region ?_
  have := aops_wp (P := P) hK (ops := ops) (Q := Q) (Qa := fun st' => Qa { st' with loc := [] }) (fun st γ a w hr hq' => hq _ γ a w hr.unloc hq') l 0 (fun k hk => ?_) hr h
  · rw [List.range_eq_range']
    rw [← h1] at this
    simpa using this
  · have hk' : k < ops.toList.length := by omega
    refine ⟨ops.toList[k], ?_, h2 k hk' hk⟩
    rw [Nat.zero_add, ← Array.getElem?_toList, List.getElem?_eq_getElem hk']

end
end

end Go.Proofs.YtnhhcfbigjpfeaaDoor
