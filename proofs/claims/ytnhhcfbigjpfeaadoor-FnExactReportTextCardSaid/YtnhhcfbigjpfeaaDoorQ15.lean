/-
  Code and functions of the abstract machine: what is shown there holds in the model.
-/
import Derived.Test.YtnhhcfbigjpfeaaDoorQ14
namespace Go.Proofs.YtnhhcfbigjpfeaaDoor
set_option linter.all false

section

inductive AE where
  | normal
  | exit (id : Nat)
  | ret

def AE.toExit : AE → Exit
  | .normal => .normal
  | .exit id => .exit id
  | .ret => .ret

/-- 'st' says less than 'st0'. -/
def Weak (st0 st : St) : Prop :=
  ∀ {L : Nat → Bool} {n : Nat} {K : Ctx} {γ : Ghost} {a : Act} {w : World}, SRel L n K st0 γ a w → ∃ γ', SRel L n K st γ' a w

/-- What holds behind a piece of code. -/
def awp (P : Program) : AC → St → (AE → St → Prop) → Prop
  | .skip, st, Q => Q .normal st
  | .region ops, st, Q => aops P ops st (fun st' => Q .normal { st' with loc := [] })
  | .drawn ops un tl, st, Q => adr P ops un 0 [] st (fun st' => aops P tl st' (fun st'' => Q .normal { st'' with loc := [] }))
  | .seq x y, st, Q => awp P x st (fun e st' => match e with
      | .normal => awp P y st' Q
      | e => Q e st')
  | .cond c x y, st, Q => match st.val c with
      | .bool b => if b = true then awp P x st Q else awp P y st Q
      | _ => False
  | .block id c, st, Q => awp P c st (fun e st' => match e with
      | .exit i => if i = id then Q .normal st' else Q (.exit i) st'
      | e => Q e st')
  | .loop c, st, Q => ∃ I : Nat → St → Prop, (∃ n st', Weak st st' ∧ I n st') ∧
      ∀ n st, I n st → awp P c st (fun e st' => match e with
        | .normal => ∃ m st'', m < n ∧ Weak st' st'' ∧ I m st''
        | e => Q e st')
  | .exit id, st, Q => Q (.exit id) st
  | .ret, st, Q => Q .ret st

def stripC (P : Program) (L : Nat → Bool) (n : Nat) : Code → Option AC
  | .skip => some .skip
  | .region _ ops false => match stripOps P L n ops ops.toList with
    | some l => some (.region l)
    | none => none
  | .region _ ops true => match stripOps P L n ops ops.toList with
    | some l =>
      let A := masks ops.toList []
      let m := cutAt A l.length
      let un := unOf A (l.take m) 0 []
      if P.follows .mixedOrders && (ordOk A ops.toList 0 && pairsOk A un (l.take m) 0 []) then some (.drawn (l.take m) un (l.drop m)) else none
    | none => none
  | .seq x y => match stripC P L n x, stripC P L n y with
    | some a, some b => some (.seq a b)
    | _, _ => none
  | .cond c x y => match stripX L c, stripC P L n x, stripC P L n y with
    | some c, some a, some b => some (.cond c a b)
    | _, _, _ => none
  | .block id c => match stripC P L n c with
    | some a => some (.block id a)
    | none => none
  | .loop c => match stripC P L n c with
    | some a => some (.loop a)
    | none => none
  | .exit id => some (.exit id)
  | .ret => some .ret
  | _ => none

section
variable {P : Program} {L : Nat → Bool} {n : Nat} {K : Ctx}

/-- A loop, with a measure that the invariant bears. -/
theorem wp_loop_idx {c : Code} {Q : Exit → Act → World → Prop} (I : Nat → Act → World → Prop) (round : ∀ k a w, I k a w → c.wp P (Exit.then (fun a' w' => ∃ m, m < k ∧ I m a' w') Q) a w) {k : Nat} {a : Act} {w : World} (h : I k a w) :
    (Code.loop c).wp P Q a w := by
  intro b kk cs
  have key : ∀ k a w, I k a w → ∃ e a' w', Q e a' w' ∧ Arrives P (lone (b.at a (.code c :: .inLoop c :: kk)) cs w) b kk cs e a' w' := by
    intro k
    induction k using Nat.strongRecOn with
    | _ k ih =>
      intro a w hI
      obtain ⟨e, a₁, w₁, hq, harr⟩ := round k a w hI b (.inLoop c :: kk) cs
      cases e with
      | normal =>
        obtain ⟨m, hlt, hI₁⟩ := hq
        obtain ⟨e₂, a₂, w₂, hq₂, harr₂⟩ := ih m hlt a₁ w₁ hI₁
        exact ⟨e₂, a₂, w₂, hq₂, .of_steps (Steps.trans harr (.one step_inLoop)) harr₂⟩
      | exit id => exact ⟨_, a₁, w₁, hq, .pass (x := .inLoop c) rfl (fun _ _ => .inl (by simp)) harr⟩
      | goto l => exact ⟨_, a₁, w₁, hq, .pass (x := .inLoop c) rfl (fun _ _ => .inl (by simp)) harr⟩
      | ret => exact ⟨_, a₁, w₁, hq, .pass (x := .inLoop c) rfl (fun _ _ => .inl (by simp)) harr⟩
      | panic ch => exact ⟨_, a₁, w₁, hq, .pass (x := .inLoop c) rfl (fun _ _ => .inl (by simp)) harr⟩
      | outgrown => exact ⟨_, a₁, w₁, hq, .pass (x := .inLoop c) rfl (fun _ _ => .inl (by simp)) harr⟩
  obtain ⟨e, a', w', hq, harr⟩ := key k a w h
  exact ⟨e, a', w', hq, .of_steps (.one step_loop) harr⟩

theorem awp_wp (hK : K.ok) : ∀ (c : Code) {ac : AC}, stripC P L n c = some ac → ∀ {st : St} {γ : Ghost} {a : Act} {w : World} {Qa : AE → St → Prop} {Q : Exit → Act → World → Prop},
    SRel L n K st γ a w → awp P ac st Qa → (∀ e st γ a w, SRel L n K st γ a w → Qa e st → Q e.toExit a w) → c.wp P Q a w := by
  intro c
  induction c with
  | skip => intro ac hs st γ a w Qa Q hr h hq; simp [stripC] at hs; subst hs; exact wp_skip (hq _ _ _ _ _ hr h)
  | exit id => intro ac hs st γ a w Qa Q hr h hq; simp [stripC] at hs; subst hs; exact wp_exit (hq _ _ _ _ _ hr h)
  | ret => intro ac hs st γ a w Qa Q hr h hq; simp [stripC] at hs; subst hs; exact wp_ret (hq _ _ _ _ _ hr h)
  | region id ops draw =>
    intro ac hs st γ a w Qa Q hr h hq
    cases draw with
    | true =>
      simp only [stripC] at hs
      split at hs
      · rename_i l hl
        split at hs
        · rename_i hc
          obtain rfl := Option.some.inj hs
          simp only [Bool.and_eq_true] at hc
          exact drawn_wp hK hc.1 hl hc.2.1 rfl hc.2.2 hr (Qa := fun st' => Qa .normal st') (fun st γ a w hr h => hq .normal st γ a w hr h) h
        · cases hs
      · cases hs
    | false =>
      simp only [stripC] at hs
      split at hs
      · rename_i l hl
        obtain rfl := Option.some.inj hs
        exact region_wp hK hl hr (Qa := fun st' => Qa .normal st') (fun st γ a w hr h => hq .normal st γ a w hr h) h
      · cases hs
  | seq x y ihx ihy =>
    intro ac hs st γ a w Qa Q hr h hq
    simp only [stripC] at hs
    split at hs
    · rename_i ax ay hx hy
      obtain rfl := Option.some.inj hs
      refine wp_seq (ihx hx hr h (fun e st γ a w hr h => ?_))
      cases e with
      | normal => exact ihy hy hr h hq
      | exit id => exact hq (.exit id) _ _ _ _ hr h
      | ret => exact hq .ret _ _ _ _ hr h
    · cases hs
  | cond c x y ihx ihy =>
    intro ac hs st γ a w Qa Q hr h hq
    simp only [stripC] at hs
    split at hs
    · rename_i ac ax ay hc hx hy
      obtain rfl := Option.some.inj hs
      have rc := stripX_rel hr hc
      simp only [awp] at h
      split at h
      · rename_i b hb
        rw [hb] at rc
        refine wp_cond rc.bool_inv ?_
        cases b with
        | true => exact ihx hx hr (by simpa using h) hq
        | false => exact ihy hy hr (by simpa using h) hq
      · exact h.elim
    · cases hs
  | block id c ih =>
    intro ac hs st γ a w Qa Q hr h hq
    simp only [stripC] at hs
    split at hs
    · rename_i a1 hc
      obtain rfl := Option.some.inj hs
      refine wp_block (ih hc hr h (fun e st γ a w hr h => ?_))
      cases e with
      | normal => exact hq .normal _ _ _ _ hr h
      | exit i =>
        simp only at h
        simp only [AE.toExit, Exit.inBlock]
        split at h
        · rw [if_pos ‹_›]; exact hq .normal _ _ _ _ hr h
        · rw [if_neg ‹_›]; exact hq (.exit i) _ _ _ _ hr h
      | ret => exact hq .ret _ _ _ _ hr h
    · cases hs
  | loop c ih =>
    intro ac hs st γ a w Qa Q hr h hq
    simp only [stripC] at hs
    split at hs
    · rename_i a1 hc
      obtain rfl := Option.some.inj hs
      obtain ⟨I, ⟨k, st0, hw, hI⟩, hround⟩ := h
      obtain ⟨γ0, hr0⟩ := hw hr
      refine wp_loop_idx (fun k a w => ∃ st γ, SRel L n K st γ a w ∧ I k st) (fun k a w hI => ?_) (k := k) ⟨st0, γ0, hr0, hI⟩
      obtain ⟨st1, γ1, hr1, hI1⟩ := hI
      refine ih hc hr1 (hround k st1 hI1) (fun e st γ a w hr h => ?_)
      cases e with
      | normal =>
        obtain ⟨m, st'', hlt, hw, hI⟩ := h
        obtain ⟨γ', hr'⟩ := hw hr
        exact ⟨m, hlt, st'', γ', hr', hI⟩
      | exit id => exact hq (.exit id) _ _ _ _ hr h
      | ret => exact hq .ret _ _ _ _ hr h
    · cases hs
  | _ => intro ac hs; simp [stripC] at hs

def stripR (P : Program) : ResultVar → Option ARes
  | .tmp t => some (.t t)
  | .cell a ty => match aggT P ty, sizeT P ty with
    | some g, some n => if g = true ∨ n = 1 then some (.c a g n) else none
    | _, _ => none

def stripRs (P : Program) : List ResultVar → Option (List ARes)
  | [] => some []
  | r :: l => match stripR P r, stripRs P l with
    | some x, some y => some (x :: y)
    | _, _ => none

/-- The function's code, as the abstract machine has it. -/
def Linked (P : Program) (f : FuncId) (af : AF) : Prop :=
  ∃ fn c, P.funcs[f]? = some fn ∧ fn.body = some c ∧ stripC P (fun t => !af.glob.contains t) fn.ntmps c = some af.body ∧ stripRs P fn.results.toList = some af.results ∧
    (af.results.all fun t => af.glob.contains t.slot) = true ∧ (af.glob.all fun t => decide (t < fn.ntmps)) = true

/-- What a call begins with. -/
def St.start (args : List V) (bi : List (List V)) : St :=
  { env := args.zipIdx.map (fun (v, i) => (i, v)), loc := [], box := boxesOf bi, stat := argStat args bi }

/-- What a function hands back. -/
def St.res1 (st : St) : ARes → V
  | .t t => look st.env t
  | .c a g n => match look st.env a with
    | .ptr b off => match lookB st.box b with
      | some cs => part g n off cs
      | none => .undef
    | _ => .undef

def St.resOk (st : St) : List ARes → Prop
  | [] => True
  | .t _ :: r => st.resOk r
  | .c a _ n :: r => (match look st.env a with
    | .ptr b off => match lookB st.box b with
      | some cs => off + n ≤ cs.length
      | none => False
    | _ => False) ∧ st.resOk r

def St.result (st : St) (rs : List ARes) : V :=
  match rs with
  | [r] => st.res1 r
  | rs => .tup (rs.map st.res1)

/-- The end of a call: its results, and the variables that were handed over or are handed back, under new names. -/
def EndsP (rs : List ARes) (R : V) (bo : List (List V)) (st : St) : Prop :=
  st.resOk rs ∧ ∃ M B, okM st.stat M ∧ okN B ∧ (∀ k, lookS (statM M) k = lookS (resStat R bo) k) ∧ relV M st.stat none B (st.result rs) R ∧ okB M st.stat none st.box B (boxesOf bo) ∧ hasB (boxesOf bo) B ∧ keepB B st.box

structure Ends (rs : List ARes) (R : V) (bo : List (List V)) (st : St) : Prop where
  of ::
  p : EndsP rs R bo st

def tupleOf (vs : List Value) : Value :=
  match vs with
  | [v] => v
  | vs => .tuple vs.toArray

theorem run_results {L : Nat → Bool} {n : Nat} {K : Ctx} {st : St} {γ : Ghost} {a : Act} {w : World} (hr : SRel L n K st γ a w) : ∀ {rs : List ResultVar} {ls : List ARes}, stripRs P rs = some ls → (ls.all fun t => !L t.slot) = true → st.resOk ls → ∃ vs, (∀ F : ResultVar → Sem Value, (∀ t, F (.tmp t) = pure (a.tmps.getD t undef)) → (∀ t ty, F (.cell t ty) = do loadVar ty (← asAddr (a.tmps.getD t undef))) → (rs.mapM F).run P w = .ok vs w) ∧ vs.length = ls.length ∧
    ∀ k (h1 : k < (ls.map st.res1).length) (h2 : k < vs.length), VRel st.stat γ w (ls.map st.res1)[k] vs[k]
  | [], ls, hs, _, _ => by
    simp only [stripRs, Option.some.injEq] at hs
    subst hs
    exact ⟨[], fun _ _ _ => rfl, rfl, fun k h => by simp at h⟩
  | r :: rs, ls, hs, hl, ho => by
    simp only [stripRs] at hs
    split at hs
    · rename_i x y e1 e2
      obtain rfl := Option.some.inj hs
      simp only [List.all_cons, Bool.and_eq_true, Bool.not_eq_true'] at hl
      have hslot := hr.e.slot x.slot
      rw [hl.1] at hslot
      simp only [Bool.false_eq_true, if_false] at hslot
      have key : ∃ v, (∀ F : ResultVar → Sem Value, (∀ t, F (.tmp t) = pure (a.tmps.getD t undef)) → (∀ t ty, F (.cell t ty) = do loadVar ty (← asAddr (a.tmps.getD t undef))) → (F r).run P w = .ok v w) ∧ VRel st.stat γ w (st.res1 x) v ∧ st.resOk y := by
        cases r with
        | tmp t =>
          simp only [stripR, Option.some.injEq] at e1
          subst e1
          exact ⟨_, fun F h1 h2 => by rw [h1]; rfl, hslot, ho⟩
        | cell t ty =>
          simp only [stripR] at e1
          split at e1
          · rename_i g m q1 q2
            split at e1
            · rename_i q3
              obtain rfl := Option.some.inj e1
              simp only [ARes.slot] at hslot
              simp only [St.resOk] at ho
              obtain ⟨ho1, ho2⟩ := ho
              simp only [St.res1]
              split at ho1
              · rename_i b off e3
                rw [e3] at hslot
                obtain ⟨gb, hv, hg⟩ := hslot.ptr_inv
                split at ho1
                · rename_i cs e4
                  obtain ⟨g', c, e, b1, b2, b3, b4, b5⟩ := hr.h.box b cs e4
                  rw [hg] at b1
                  obtain rfl := Option.some.inj b1
                  obtain ⟨v, hrun, hvr⟩ := loadVar_rel (P := P) (S := st.stat) (γ := γ) q1 q2 q3 (off := 0) b3 (cs := cs) (us := c.toList) ⟨by simpa using b4, fun k hk hk' => by simpa using b5 k hk (by simpa using hk')⟩ (fun k hk => by simp) off ho1
                  refine ⟨v, fun F h1 h2 => ?_, hvr, ho2⟩
                  rw [h2, hv]
                  simpa [asAddr] using hrun
                · exact ho1.elim
              · exact ho1.elim
            · cases e1
          · cases e1
      obtain ⟨v, k1, k2, k3⟩ := key
      obtain ⟨vs, g1, g2, g3⟩ := run_results hr e2 hl.2 k3
      refine ⟨v :: vs, fun F h1 h2 => ?_, by simp [g2], fun k q1 q2 => ?_⟩
      · simp only [List.mapM_cons, Sem.run_bind, Sem.run_pure, Result.andThen, k1 F h1 h2, g1 F h1 h2]
      · cases k with
        | zero => exact k2
        | succ k => exact g3 k (by simpa using q1) (by simpa using q2)
    · cases hs

theorem lookEnv_zip : ∀ (args : List V) (i t : Nat), look ((args.zipIdx i).map (fun (v, j) => (j, v))) t = if i ≤ t then args.getD (t - i) .undef else .undef
  | [], i, t => by simp [look]
  | v :: r, i, t => by
    simp only [List.zipIdx_cons, List.map_cons, look]
    by_cases e : t = i
    · subst e; simp
    · rw [if_neg e, lookEnv_zip r (i + 1) t]
      by_cases h : i ≤ t
      · rw [if_pos h, if_pos (by omega), show t - i = (t - (i + 1)) + 1 from by omega]
        simp
      · rw [if_neg h, if_neg (by omega)]

/-- A FUNCTION's CONTRACT, SHOWN IN THE ABSTRACT MACHINE. -/
theorem Fn.of_awp {f : FuncId} {af : AF} (hl : Linked P f af) {args : List V} {bi : List (List V)} {R : V} {bo : List (List V)} (hargs0 : ((List.range args.length).all fun i => af.glob.contains i) = true)
    (h : awp P af.body (St.start args bi) (fun e st => match e with | .exit _ => False | _ => Ends af.results R bo st)) : Fn P f args bi R bo := by
  have hargs : ∀ i, i < args.length → af.glob.contains i = true := fun i hi => List.all_eq_true.1 hargs0 i (by simpa using hi)
  intro w γ vs hT hH hc
  obtain ⟨fn, c, h1, h2, h3, h4, h5, h6⟩ := hl
  refine calls_of_wp h1 h2 ?_
  have hK : (Ctx.ofGhost w γ).ok := ⟨hT.mono (fun g hg => ⟨hg.1, fun q => q hg.2⟩) (fun _ _ => rfl), fun g hg => ⟨(hH.av.2 g (by rw [hH.av.1]; exact hg)).1, fun q => q (hH.av.2 g (by rw [hH.av.1]; exact hg)).2⟩⟩
  have hstart : SRel (fun t => !af.glob.contains t) fn.ntmps (.ofGhost w γ) (St.start args bi) γ { tmps := vs.toArray ++ Array.replicate (fn.ntmps - vs.toArray.size) undef, defers := [] } w := by
    refine ⟨hH, rfl, ?_, fun t => ?_⟩
    · have hvl : vs.length = args.length := hc.1
      have : args.length ≤ fn.ntmps := by
        rcases Nat.lt_or_ge fn.ntmps args.length with q | q
        · have h7 := hargs fn.ntmps q
          have h8 := List.all_eq_true.1 h6 fn.ntmps (List.contains_iff_mem.1 h7)
          simp at h8
        · exact q
      simp; omega
    · have hslot : (if (!af.glob.contains t) = true then look (St.start args bi).loc t else look (St.start args bi).env t) = if (!af.glob.contains t) = true then V.undef else args.getD t .undef := by
        simp only [St.start, look]
        have := lookEnv_zip args 0 t
        simp only [Nat.zero_le, if_true, Nat.sub_zero] at this
        rw [this]
      rw [hslot]
      by_cases ht : t < args.length
      · rw [hargs t ht]
        simp only [Bool.not_true, Bool.false_eq_true, if_false]
        have ht2 : t < vs.length := by rw [hc.1]; exact ht
        rw [List.getD_eq_getElem?_getD, List.getElem?_eq_getElem ht, Array.getD_eq_getD_getElem?, Array.getElem?_append_left (by simpa using ht2)]
        have h9 := hc.2 t ht ht2
        simp only [List.getElem?_toArray, List.getElem?_eq_getElem ht2, Option.getD_some]
        exact h9
      · have : args.getD t .undef = .undef := by rw [List.getD_eq_getElem?_getD, List.getElem?_eq_none (by omega)]; rfl
        rw [this]
        split <;> exact .base (.undef _)
  refine awp_wp hK c h3 hstart h (fun e st γ' a w' hr hq => ?_)
  have hend : Ends af.results R bo st → a.defers = [] ∧ ∃ v, (results fn a.tmps).run P w' = .ok v w' ∧ Exits (.ofGhost w γ) R bo (.returned v) w' := by
    rintro ⟨⟨hok, M, B, hM, hN, hst, hrel, hB, hB2, hB3⟩⟩
    obtain ⟨vs, r1, r2, r3⟩ := run_results (P := P) hr h4 (by simpa using h5) hok
    refine ⟨hr.e.defers, tupleOf vs, ?_, tupleOf vs, weakG M B γ', rfl, ?_, ?_⟩
    · unfold results
      simp only [Sem.run_bind, Array.mapM_eq_mapM_toList]
      simp only [Sem.run_map]
      rw [r1 _ (fun t => rfl) (fun t ty => rfl)]
      simp only [Result.andThen, Sem.run_pure]
      match vs with
      | [] => rfl
      | [t] => rfl
      | t :: u :: r => simp [tupleOf]
    · exact (weak_H hr.h hM hN hB hB2 hB3).stat hst
    · refine VRel.evo (.stat hst _ _) (weak_V (weakG_less hr.h) hM hrel ?_)
      revert r2 r3
      match af.results, vs with
      | [t], [v] => intro r2 r3; exact r3 0 (by simp) (by simp)
      | [], [] => intro _ _; exact .tup _ _ (by simp) (fun k q1 q2 => by simp at q1)
      | t :: u :: r, v :: v' :: vr => intro r2 r3; exact .tup _ _ (by simpa using r2) r3
      | [], _ :: _ => intro r2 _; simp at r2
      | [_], [] => intro r2 _; simp at r2
      | [_], _ :: _ :: _ => intro r2 _; simp at r2
      | _ :: _ :: _, [] => intro r2 _; simp at r2
      | _ :: _ :: _, [_] => intro r2 _; simp at r2
  cases e with
  | normal => exact hend hq
  | ret => exact hend hq
  | exit id => exact hq.elim

def okE (M : Mp) (S : Stats) (B : Bm) (env : List (Nat × V)) : List (Nat × V) → Prop
  | [] => True
  | (t, v) :: r => relV M S none B (look env t) v ∧ okE M S B env r

theorem relV_undef {M : Mp} {S : Stats} {E : Option (List Nat)} {B : Bm} {x : V} : relV M S E B x .undef := by
  cases x <;> simp [relV, relA, relC]

theorem okE_look {M : Mp} {S : Stats} {B : Bm} {env : List (Nat × V)} : ∀ {env' : List (Nat × V)}, okE M S B env env' → ∀ t, relV M S none B (look env t) (look env' t)
  | [], _, t => by simp only [look]; exact relV_undef
  | (k, v) :: r, h, t => by
    simp only [look]
    by_cases e : t = k
    · rw [if_pos e, e]; exact h.1
    · rw [if_neg e]; exact okE_look h.2 t

/-- A state that says less. -/
theorem Weak.mk {st st' : St} (M : Mp) (B : Bm) (hM : okM st.stat M) (hN : okN B) (hE : okE M st.stat B st.env st'.env) (hB : okB M st.stat none st.box B st'.box) (hB2 : hasB st'.box B) (hB3 : keepB B st.box)
    (hS : st'.stat = statM M) (hL : st'.loc = []) : Weak st st' := by
  intro L n K γ a w hr
  refine ⟨weakG M B γ, by rw [hS]; exact weak_H hr.h hM hN hB hB2 hB3, hr.e.defers, hr.e.size, fun t => ?_⟩
  have hs := hr.e.slot t
  by_cases e : L t = true
  · rw [if_pos e, hL]; exact .base (.undef _)
  · rw [if_neg e] at hs ⊢
    rw [hS]
    exact weak_V (weakG_less hr.h) hM (okE_look hE t) hs

/-- A state that says less, where there are neither stamps nor variables. -/
theorem Weak.plain {st : St} {env : List (Nat × V)} (hE : okE [] st.stat [] st.env env) (hb : keepB [] st.box) : Weak st { env := env, loc := [], box := [], stat := [] } :=
  Weak.mk (st' := { env := env, loc := [], box := [], stat := [] }) [] [] trivial trivial hE trivial trivial hb rfl rfl

theorem Ends.mk {rs : List ARes} {R : V} {bo : List (List V)} {st : St} (M : Mp) (B : Bm) (h : st.resOk rs ∧ okM st.stat M ∧ okN B ∧ statM M = resStat R bo ∧ relV M st.stat none B (st.result rs) R ∧ okB M st.stat none st.box B (boxesOf bo) ∧ hasB (boxesOf bo) B ∧ keepB B st.box) : Ends rs R bo st :=
  ⟨⟨h.1, M, B, h.2.1, h.2.2.1, fun k => by rw [h.2.2.2.1], h.2.2.2.2⟩⟩

/-! ## A choice that is made at the end may be made at the beginning -/

theorem arun_ex {α : Type} {o : AOp} {st : St} {k : α → St → Prop} (h : arun P o st (fun s => ∃ x, k x s)) : ∃ x, arun P o st (k x) := by
  unfold arun at h ⊢
  split at h
  · rcases h with ⟨δ, rb, rs, h1, x, h2⟩ | ⟨R, st', h1, x, h2⟩
    · exact ⟨x, .inl ⟨δ, rb, rs, h1, h2⟩⟩
    · exact ⟨x, .inr ⟨R, st', h1, h2⟩⟩
  · split at h
    · rcases h with ⟨hn, ⟨δ, rb, rs, h1, x, h2⟩ | ⟨R, st', h1, x, h2⟩⟩
      · exact ⟨x, hn, .inl ⟨δ, rb, rs, h1, h2⟩⟩
      · exact ⟨x, hn, .inr ⟨R, st', h1, h2⟩⟩
    · exact h.elim
  · split at h
    · unfold elStore at h ⊢
      split at h
      · obtain ⟨h1, x, h2⟩ := h
        exact ⟨x, h1, h2⟩
      · exact h.elim
    · split at h
      · obtain ⟨h1, x, h2⟩ := h
        exact ⟨x, h1, h2⟩
      · exact h.elim
  · split at h
    · obtain ⟨h1, x, h2⟩ := h
      exact ⟨x, h1, h2⟩
    · exact h.elim

theorem arun_mono {o : AOp} {Q Q' : St → Prop} (h : ∀ st, Q st → Q' st) {st : St} : arun P o st Q → arun P o st Q' := by
  unfold arun
  split
  · rintro (⟨δ, rb, rs, h1, h2⟩ | ⟨R, st', h1, h2⟩)
    · exact .inl ⟨δ, rb, rs, h1, h _ h2⟩
    · exact .inr ⟨R, st', h1, h _ h2⟩
  · split
    · rintro ⟨hn, ⟨δ, rb, rs, h1, h2⟩ | ⟨R, st', h1, h2⟩⟩
      · exact ⟨hn, .inl ⟨δ, rb, rs, h1, h _ h2⟩⟩
      · exact ⟨hn, .inr ⟨R, st', h1, h _ h2⟩⟩
    · exact id
  · split
    · unfold elStore
      split
      · exact fun q => ⟨q.1, h _ q.2⟩
      · exact id
    · split
      · exact fun q => ⟨q.1, h _ q.2⟩
      · exact id
  · split
    · exact fun q => ⟨q.1, h _ q.2⟩
    · exact id

theorem aops_mono {Q Q' : St → Prop} (h : ∀ st, Q st → Q' st) : ∀ {ops : List AOp} {st : St}, aops P ops st Q → aops P ops st Q'
  | [], st, q => h _ q
  | o :: r, st, q => by
    unfold aops at q ⊢
    revert q
    split
    · exact fun q => arun_mono (fun st q => aops_mono h q) q
    · split
      · split
        · exact fun q => arun_mono (fun st q => aops_mono h q) q
        · exact fun q => aops_mono h q
      · exact fun q => aops_mono h q
      · exact id

theorem aops_ex {α : Type} {Q : α → St → Prop} : ∀ {ops : List AOp} {st : St}, aops P ops st (fun s => ∃ x, Q x s) → ∃ x, aops P ops st (Q x)
  | [], st, q => q
  | o :: r, st, q => by
    unfold aops at q
    unfold aops
    revert q
    split
    · exact fun q => arun_ex (arun_mono (fun st q => aops_ex q) q)
    · split
      · split
        · exact fun q => arun_ex (arun_mono (fun st q => aops_ex q) q)
        · exact fun q => aops_ex q
      · exact fun q => aops_ex q
      · exact fun q => q.elim

theorem adrun_mono {o : AOp} {k k' : Delta → Rec → Prop} (h : ∀ δ rc, k δ rc → k' δ rc) {st : St} : adrun P o st k → adrun P o st k' := by
  unfold adrun
  split
  · rintro ⟨δ, rb, rs, h1, h2⟩
    exact ⟨δ, rb, rs, h1, h _ _ h2⟩
  · split
    · rintro ⟨hn, δ, rb, rs, h1, h2⟩
      exact ⟨hn, δ, rb, rs, h1, h _ _ h2⟩
    · exact id
  · split
    · exact fun q => ⟨q.1, h _ _ q.2⟩
    · rintro ⟨m, i, j, b, l, s, y, x, σ, sz, xs, cs0, h1, h2, h3, h4, h5, h6, h7, h8, h9, h10, h11, h12, h13⟩
      exact ⟨m, i, j, b, l, s, y, x, σ, sz, xs, cs0, h1, h2, h3, h4, h5, h6, h7, h8, h9, h10, h11, h12, h _ _ h13⟩

theorem adrun_ex {α : Type} {o : AOp} {k : α → Delta → Rec → Prop} {st : St} (h : adrun P o st (fun δ rc => ∃ x, k x δ rc)) : ∃ x, adrun P o st (k x) := by
  unfold adrun at h ⊢
  split at h
  · obtain ⟨δ, rb, rs, h1, x, h2⟩ := h
    exact ⟨x, δ, rb, rs, h1, h2⟩
  · split at h
    · obtain ⟨hn, δ, rb, rs, h1, x, h2⟩ := h
      exact ⟨x, hn, δ, rb, rs, h1, h2⟩
    · exact h.elim
  · split at h
    · obtain ⟨h1, x, h2⟩ := h
      exact ⟨x, h1, h2⟩
    · obtain ⟨m, i, j, b, l, s, y, x, σ, sz, xs, cs0, h1, h2, h3, h4, h5, h6, h7, h8, h9, h10, h11, h12, z, h13⟩ := h
      exact ⟨z, m, i, j, b, l, s, y, x, σ, sz, xs, cs0, h1, h2, h3, h4, h5, h6, h7, h8, h9, h10, h11, h12, h13⟩

theorem adr_mono {Q Q' : St → Prop} (h : ∀ st, Q st → Q' st) : ∀ {ops : List AOp} {un : List (List Nat)} {i : Nat} {log : List (Nat × Rec)} {st : St}, adr P ops un i log st Q → adr P ops un i log st Q'
  | [], un, i, log, st, q => h _ q
  | o :: r, un, i, log, st, q => by
    unfold adr at q ⊢
    revert q
    split
    · exact adrun_mono fun δ rc q => ⟨q.1, adr_mono h q.2⟩
    · split
      · split
        · exact adrun_mono fun δ rc q => ⟨q.1, adr_mono h q.2⟩
        · exact fun q => adr_mono h q
      · exact fun q => adr_mono h q
      · exact id

theorem adr_ex {α : Type} {Q : α → St → Prop} : ∀ {ops : List AOp} {un : List (List Nat)} {i : Nat} {log : List (Nat × Rec)} {st : St}, adr P ops un i log st (fun s => ∃ x, Q x s) → ∃ x, adr P ops un i log st (Q x)
  | [], un, i, log, st, q => q
  | o :: r, un, i, log, st, q => by
    unfold adr at q
    unfold adr
    revert q
    split
    · exact fun q => adrun_ex (adrun_mono (fun δ rc q => by obtain ⟨x, hx⟩ := adr_ex q.2; exact ⟨x, q.1, hx⟩) q)
    · split
      · split
        · exact fun q => adrun_ex (adrun_mono (fun δ rc q => by obtain ⟨x, hx⟩ := adr_ex q.2; exact ⟨x, q.1, hx⟩) q)
        · exact fun q => adr_ex q
      · exact fun q => adr_ex q
      · exact fun q => q.elim

theorem awp_mono : ∀ {c : AC} {Q Q' : AE → St → Prop} (h : ∀ e st, Q e st → Q' e st) {st : St}, awp P c st Q → awp P c st Q'
  | .skip, Q, Q', h, st, q => h _ _ q
  | .region ops, Q, Q', h, st, q => aops_mono (fun st q => h _ _ q) q
  | .drawn _ _ _, Q, Q', h, st, q => adr_mono (fun st q => aops_mono (fun st q => h _ _ q) q) q
  | .seq x y, Q, Q', h, st, q => by
    refine awp_mono (c := x) (fun e st q => ?_) q
    cases e with
    | normal => exact awp_mono (c := y) h q
    | exit i => exact h _ _ q
    | ret => exact h _ _ q
  | .cond c x y, Q, Q', h, st, q => by
    simp only [awp] at q ⊢
    revert q
    split
    · split
      · exact awp_mono (c := x) h
      · exact awp_mono (c := y) h
    · exact id
  | .block id c, Q, Q', h, st, q => by
    refine awp_mono (c := c) (fun e st q => ?_) q
    cases e with
    | normal => exact h _ _ q
    | exit i =>
      simp only at q ⊢
      split at q
      · rw [if_pos ‹_›]; exact h _ _ q
      · rw [if_neg ‹_›]; exact h _ _ q
    | ret => exact h _ _ q
  | .loop c, Q, Q', h, st, q => by
    obtain ⟨I, hI, hr⟩ := q
    refine ⟨I, hI, fun n st hn => awp_mono (c := c) (fun e st q => ?_) (hr n st hn)⟩
    cases e with
    | normal => exact q
    | exit i => exact h _ _ q
    | ret => exact h _ _ q
  | .exit i, Q, Q', h, st, q => h _ _ q
  | .ret, Q, Q', h, st, q => h _ _ q

/-- One round of a loop, and the loop again. -/
theorem loop_unroll {c : AC} {Q : AE → St → Prop} {st : St} (hex : ∀ {α : Type} {Q : α → AE → St → Prop} {st : St}, awp P c st (fun e s => ∃ x, Q x e s) → ∃ x, awp P c st (Q x))
    (h : awp P c st (fun e s => match e with
    | .normal => ∃ s', Weak s s' ∧ awp P (.loop c) s' Q
    | e => Q e s)) : awp P (.loop c) st Q := by
  have h2 : awp P c st (fun e s => ∃ x : Option (St × (Nat → St → Prop) × Nat), match e with
      | .normal => (match x with
        | some (s', I, m) => Weak s s' ∧ I m s' ∧ ∀ n st, I n st → awp P c st (fun e st' => match e with
          | .normal => ∃ m st'', m < n ∧ Weak st' st'' ∧ I m st''
          | e => Q e st')
        | none => False)
      | e => Q e s) := by
    refine awp_mono (fun e s q => ?_) h
    cases e with
    | normal =>
      obtain ⟨s', h1, I, ⟨m, s'', h3, h4⟩, h5⟩ := q
      exact ⟨some (s'', I, m), (fun hr => by obtain ⟨γ1, q1⟩ := h1 hr; exact h3 q1), h4, h5⟩
    | exit i => exact ⟨none, q⟩
    | ret => exact ⟨none, q⟩
  obtain ⟨x, hx⟩ := hex h2
  cases x with
  | none =>
    refine ⟨fun n s => s = st ∧ n = 0, ⟨0, st, fun hr => ⟨_, hr⟩, rfl, rfl⟩, ?_⟩
    rintro n s ⟨rfl, rfl⟩
    refine awp_mono (fun e s q => ?_) hx
    cases e with
    | normal => exact q.elim
    | exit i => exact q
    | ret => exact q
  | some t =>
    obtain ⟨s', I, m⟩ := t
    refine ⟨fun n s => (s = st ∧ n = m + 1) ∨ (I n s ∧ ∀ n st, I n st → awp P c st (fun e st' => match e with
          | .normal => ∃ m st'', m < n ∧ Weak st' st'' ∧ I m st''
          | e => Q e st')), ⟨m + 1, st, fun hr => ⟨_, hr⟩, .inl ⟨rfl, rfl⟩⟩, ?_⟩
    rintro n s (⟨rfl, rfl⟩ | ⟨hI, hR⟩)
    · refine awp_mono (fun e s q => ?_) hx
      cases e with
      | normal => exact ⟨m, s', Nat.lt_succ_self m, q.1, .inr ⟨q.2.1, q.2.2⟩⟩
      | exit i => exact q
      | ret => exact q
    · refine awp_mono (fun e s q => ?_) (hR n s hI)
      cases e with
      | normal =>
        obtain ⟨m', s'', q1, q2, q3⟩ := q
        exact ⟨m', s'', q1, q2, .inr ⟨q3, hR⟩⟩
      | exit i => exact q
      | ret => exact q

theorem awp_ex : ∀ {c : AC} {α : Type} {Q : α → AE → St → Prop} {st : St}, awp P c st (fun e s => ∃ x, Q x e s) → ∃ x, awp P c st (Q x)
  | .skip, _, Q, st, q => q
  | .region ops, _, Q, st, q => aops_ex q
  | .drawn _ _ _, _, Q, st, q => adr_ex (adr_mono (fun st q => aops_ex q) q)
  | .seq x y, _, Q, st, q => by
    refine awp_ex (c := x) (awp_mono (fun e st q => ?_) q)
    cases e with
    | normal => exact awp_ex (c := y) q
    | exit i => exact q
    | ret => exact q
  | .cond c x y, _, Q, st, q => by
    simp only [awp] at q ⊢
    revert q
    split
    · split
      · exact awp_ex (c := x)
      · exact awp_ex (c := y)
    · exact fun q => q.elim
  | .block id c, _, Q, st, q => by
    refine awp_ex (c := c) (awp_mono (fun e st q => ?_) q)
    cases e with
    | normal => exact q
    | exit i =>
      simp only at q ⊢
      split at q
      · obtain ⟨x, hx⟩ := q
        exact ⟨x, by rw [if_pos ‹_›]; exact hx⟩
      · obtain ⟨x, hx⟩ := q
        exact ⟨x, by rw [if_neg ‹_›]; exact hx⟩
    | ret => exact q
  | .loop c, α, Q, st, q => by
    obtain ⟨I, ⟨n, st', hw, hI⟩, hr⟩ := q
    have key : ∀ n st, I n st → ∃ x, awp P (.loop c) st (Q x) := by
      intro n
      induction n using Nat.strongRecOn with
      | _ n ih =>
        intro st hI
        have h1 : awp P c st (fun e s => ∃ x, match e with
            | .normal => ∃ s', Weak s s' ∧ awp P (.loop c) s' (Q x)
            | e => Q x e s) := by
          refine awp_mono (fun e s q => ?_) (hr n st hI)
          cases e with
          | normal =>
            obtain ⟨m, s'', q1, q2, q3⟩ := q
            obtain ⟨x, hx⟩ := ih m q1 s'' q3
            exact ⟨x, s'', q2, hx⟩
          | exit i => exact q
          | ret => exact q
        obtain ⟨x, hx⟩ := awp_ex (c := c) h1
        exact ⟨x, loop_unroll (fun q => awp_ex (c := c) q) (awp_mono (fun e s q => by cases e <;> exact q) hx)⟩
    obtain ⟨x, I', ⟨m, s'', h3, h4⟩, h5⟩ := key n st' hI
    exact ⟨x, I', ⟨m, s'', (fun hr => by obtain ⟨γ1, q1⟩ := hw hr; exact h3 q1), h4⟩, h5⟩
  | .exit i, _, Q, st, q => q
  | .ret, _, Q, st, q => q

end
end

end Go.Proofs.YtnhhcfbigjpfeaaDoor
