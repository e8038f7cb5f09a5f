/-
  What a step of the abstract machine looks at and what it changes; steps that do not touch each other may change places.
  A statement whose operations may be carried out in more than one order.
-/
import Derived.Test.YtnhhcfbigjpfeaaDoorQ12
import Derived.Orders
namespace Go.Proofs.YtnhhcfbigjpfeaaDoor
set_option linter.all false

section

/-- The operands. -/
def AO.xs : AO → List AX
  | .mv x | .box x | .nilc x | .un _ x | .conv _ x | .toStr x | .faddr _ x | .field _ _ _ x | .extract x _ | .len x | .lenStr x | .load _ _ x => [x]
  | .pick c a b => [c, a, b]
  | .alloc _ | .allocN _ _ | .lenArr _ => []
  | .build _ ps => ps.map fun p => p.2.2
  | .lits _ ps => ps
  | .store _ a x => [a, x]
  | .bin _ x y | .beq _ x y | .eqs _ _ x y | .elS _ x y | .elA _ _ x y | .idxStr x y | .idxArr _ _ _ x y | .min x y | .max x y | .append _ _ x y | .appStr _ x y => [x, y]
  | .mkfn _ xs => xs
  | .make _ _ _ l c => [l, c]
  | .cutStr x lo hi | .cutSl _ x lo hi => x :: (lo.toList ++ hi.toList)
  | .call _ xs => xs
  | .callv f xs => f :: xs

def AOp.looks (o : AOp) : List AX :=
  o.op.xs ++ match o.guard with
    | none => []
    | some (x, _) => [x]

def AD.ax : AD → Option AX
  | .no => none
  | .l d => some (.l d)
  | .g d => some (.g d)

/-- The variables, and the stamps, that a step looks at. -/
def foot (st : St) (d : Nat) : AO → List Nat × List Nat
  | .alloc _ | .allocN _ _ | .box _ => ([d], [])
  | .lits _ parts => ([], 16 * d :: (parts.map st.val).flatMap V.stamps)
  | .load _ _ a => match st.val a with
    | .ptr b _ => ([b], [])
    | .elp s _ _ => ([], s.stamp1)
    | _ => ([], [])
  | .store _ a _ => match st.val a with
    | .ptr b _ => ([b], [])
    | _ => ([], [])
  | .toStr x | .cutSl _ x _ _ | .elS _ x _ | .len x => ([], (st.val x).stamp1)
  | .make .. => ([], [16 * d])
  | .append _ _ x y => ([], 16 * d :: ((st.val x).stamp1 ++ (st.val y).stamp1))
  | .appStr _ x _ => ([], 16 * d :: (st.val x).stamp1)
  | _ => ([], [])

structure Agree (st st' : St) (xs : List AX) (rb rs : List Nat) : Prop where
  v : ∀ x ∈ xs, st'.val x = st.val x
  b : ∀ b ∈ rb, lookB st'.box b = lookB st.box b
  s : ∀ σ ∈ rs, lookS st'.stat σ = lookS st.stat σ

theorem alive_agree {S S' : Stats} {σ : Nat} (h : lookS S' σ = lookS S σ) : alive S' σ = alive S σ := by unfold alive; rw [h]

theorem aliveV_agree {S S' : Stats} {v : V} (h : ∀ σ ∈ v.stamp1, lookS S' σ = lookS S σ) : aliveV S' v = aliveV S v := by
  cases v with
  | sl σ sz xs =>
    cases σ with
    | none => rfl
    | some σ => exact alive_agree (h σ (by simp [V.stamp1]))
  | vw σ tt sz xs => exact alive_agree (h σ (by simp [V.stamp1]))
  | _ => rfl

theorem aliveAll_agree {S S' : Stats} : ∀ {l : List Nat}, (∀ σ ∈ l, lookS S' σ = lookS S σ) → aliveAll S' l = aliveAll S l
  | [], _ => rfl
  | σ :: r, h => by
    simp only [aliveAll]
    rw [alive_agree (h σ List.mem_cons_self), aliveAll_agree fun τ ht => h τ (List.mem_cons_of_mem _ ht)]

theorem elsOk_agree {sz : Nat} {S S' : Stats} : ∀ {l : List V}, (∀ σ ∈ l.flatMap V.stamps, lookS S' σ = lookS S σ) → elsOk sz S' l = elsOk sz S l
  | [], _ => rfl
  | x :: r, h => by
    simp only [elsOk]
    rw [aliveAll_agree fun τ ht => h τ (by simp [ht]), elsOk_agree fun τ ht => h τ (by rw [List.flatMap_cons]; exact List.mem_append_right _ ht)]

theorem boundO_agree {st st' : St} {d : Nat} {x : Option AX} (h : ∀ y ∈ x.toList, st'.val y = st.val y) : boundO st' d x = boundO st d x := by
  cases x with
  | none => rfl
  | some y => simp only [boundO]; rw [h y (by simp)]

theorem foot_local {st st' : St} {d : Nat} {op : AO} (hv : ∀ x ∈ op.xs, st'.val x = st.val x) : foot st' d op = foot st d op := by
  cases op <;> simp only [AO.xs, List.mem_cons, List.not_mem_nil, or_false, forall_eq_or_imp, forall_eq] at hv <;> simp only [foot] <;> first
    | rfl
    | (rw [hv]; done)
    | (rw [hv.1]; done)
    | (rw [hv.1, hv.2]; done)
    | (rw [List.map_congr_left hv]; done)

theorem astep_local {st st' : St} {d : Nat} {op : AO} (h : Agree st st' op.xs (foot st d op).1 (foot st d op).2) : astep st' d op = astep st d op := by
  obtain ⟨hv, hb, hs⟩ := h
  cases op
  case build z ps =>
    have : ps.map (fun (o, s, x) => (o, s, st'.val x)) = ps.map fun (o, s, x) => (o, s, st.val x) :=
      List.map_congr_left fun p hp => by
        obtain ⟨o, s, x⟩ := p
        have := hv x (List.mem_map.2 ⟨(o, s, x), hp, rfl⟩)
        simp only [this]
    simp only [astep, this]
  case lits sz ps =>
    have : ps.map st'.val = ps.map st.val := List.map_congr_left hv
    simp only [foot, List.mem_cons, forall_eq_or_imp] at hs
    simp only [astep, this]
    rw [hs.1, elsOk_agree hs.2]
  case mkfn f xs =>
    have : xs.map st'.val = xs.map st.val := List.map_congr_left hv
    simp only [astep, this]
  case call f xs => rfl
  case callv f xs => rfl
  case cutStr x lo hi =>
    simp only [AO.xs, List.mem_cons, forall_eq_or_imp] at hv
    simp only [astep]
    rw [hv.1]
    cases st.val x <;> try rfl
    simp only
    rw [boundO_agree (fun y hy => hv.2 y (List.mem_append_left _ hy)), boundO_agree (fun y hy => hv.2 y (List.mem_append_right _ hy))]
  case cutSl sz x lo hi =>
    simp only [AO.xs, List.mem_cons, forall_eq_or_imp] at hv
    simp only [foot] at hs
    have ha := aliveV_agree hs
    simp only [astep]
    rw [hv.1]
    revert ha hs
    cases st.val x <;> intro hs ha <;> try rfl
    all_goals simp only
    all_goals simp only [boundO_agree (fun y hy => hv.2 y (List.mem_append_left _ hy)), boundO_agree (fun y hy => hv.2 y (List.mem_append_right _ hy)), ha]
    rename_i σ sz' xs
    cases σ with
    | none => rfl
    | some σ =>
      have h0 := hs σ (by simp [V.stamp1])
      cases lo with
      | none => simp only [h0]
      | some q => rfl
  case load g n a =>
    simp only [AO.xs, List.mem_cons, List.not_mem_nil, or_false, forall_eq] at hv
    simp only [foot] at hb hs
    simp only [astep]
    rw [hv]
    revert hb hs
    cases st.val a <;> intro hb hs <;> try rfl
    · simp only [List.mem_cons, List.not_mem_nil, or_false, forall_eq] at hb
      simp only [hb]
    · simp only
      rw [aliveV_agree hs]
  case store n a x =>
    simp only [AO.xs, List.mem_cons, List.not_mem_nil, or_false, forall_eq_or_imp, forall_eq] at hv
    simp only [foot] at hb
    simp only [astep]
    rw [hv.1, hv.2]
    revert hb
    cases st.val a <;> intro hb <;> try rfl
    simp only [List.mem_cons, List.not_mem_nil, or_false, forall_eq] at hb
    simp only [hb]
  case elS sz x i =>
    simp only [AO.xs, List.mem_cons, List.not_mem_nil, or_false, forall_eq_or_imp, forall_eq] at hv
    simp only [foot] at hs
    have ha := aliveV_agree hs
    simp only [astep]
    rw [hv.1, hv.2]
    revert ha
    cases st.val x <;> intro ha <;> try rfl
    all_goals cases st.val i <;> try rfl
    all_goals simp only [ha]
  case append sz bytes x y =>
    simp only [AO.xs, List.mem_cons, List.not_mem_nil, or_false, forall_eq_or_imp, forall_eq] at hv
    simp only [foot, List.mem_cons, forall_eq_or_imp] at hs
    have ha := aliveV_agree (v := st.val y) fun σ h => hs.2 σ (List.mem_append_right _ h)
    have hx := fun σ h => hs.2 σ (List.mem_append_left _ h)
    simp only [astep]
    rw [hv.1, hv.2, hs.1, ha]
    revert hx
    cases st.val x <;> intro hx <;> try rfl
    · rename_i σ sz xs
      cases σ with
      | none => rfl
      | some σ =>
        simp only [V.stamp1, List.mem_cons, List.not_mem_nil, or_false, forall_eq] at hx
        simp only [hx]
    · rename_i σ tt sz xs
      cases tt with
      | none => rfl
      | some tt =>
        simp only [V.stamp1, List.mem_cons, List.not_mem_nil, or_false, forall_eq] at hx
        simp only [hx]
  case appStr e x y =>
    simp only [AO.xs, List.mem_cons, List.not_mem_nil, or_false, forall_eq_or_imp, forall_eq] at hv
    simp only [foot, List.mem_cons, forall_eq_or_imp] at hs
    have hx := hs.2
    simp only [astep]
    rw [hv.1, hv.2, hs.1]
    revert hx
    cases st.val x <;> intro hx <;> try rfl
    rename_i e' σ l
    simp only [V.stamp1, List.mem_cons, List.not_mem_nil, or_false, forall_eq] at hx
    simp only [hx]
  all_goals try simp only [AO.xs, List.mem_cons, List.not_mem_nil, or_false, forall_eq_or_imp, forall_eq] at hv
  all_goals try simp only [foot, List.mem_cons, List.not_mem_nil, or_false, forall_eq] at hb
  all_goals try simp only [foot, List.mem_cons, List.not_mem_nil, or_false, forall_eq] at hs
  all_goals try simp only [aliveV_agree hs]
  all_goals simp only [astep, hv, hb, hs]
  all_goals try rw [aliveV_agree hs]

/-- A step, the variables and the stamps it looks at. -/
inductive AStepF (P : Program) (st : St) (o : AOp) : Delta → List Nat → List Nat → Prop
  | skip (h : o.on st = some false) : AStepF P st o { val := .tup [] } [] []
  | op {p : Prop} {δ : Delta} (h : o.on st = some true) (hδ : astep st o.dst.num o.op = some (p, δ)) (hp : p) : AStepF P st o δ (foot st o.dst.num o.op).1 (foot st o.dst.num o.op).2
  | call {f : Nat} {xs : List AX} {δ : Delta} {rb rs : List Nat} (h : o.on st = some true) (ho : o.op = .call f xs) (hc : CallTo P f (xs.map st.val) st o.dst.num δ rb rs) : AStepF P st o δ rb rs
  | callv {F : AX} {f : Nat} {caps : List V} {xs : List AX} {δ : Delta} {rb rs : List Nat} (h : o.on st = some true) (ho : o.op = .callv F xs) (hF : st.val F = .fn f caps) (hn : Named P f)
      (hc : CallTo P f (xs.map st.val ++ caps) st o.dst.num δ rb rs) : AStepF P st o δ rb rs
  | eld {m i j b l s : Nat} {y x : AX} {σ sz : Nat} {xs cs0 : List V} (h : o.on st = some true) (ho : o.op = .store m y x) (hY : st.val y = .elp (.sl (some σ) sz xs) i j) (hs : lookS st.stat σ = some (.own xs.length sz)) (hi : i < xs.length) (hj : j + m ≤ sz) (h0 : 0 < m)
      (hel : (st.val x).okEl = true) (hcl : (st.val x).cells.length = m) (hσ : (st.val x).stamps = []) (hb : lookB st.box b = some cs0) (hl : cs0[l]? = some (.sl (some σ) sz xs)) (hs2 : lookS st.stat s = none) :
      AStepF P st o { val := .undef, nb := [(b, cs0.set l (.sl (some s) sz (setEl i j (st.val x).er.cells xs)))], ns := [(σ, some .dead), (s, some (.own xs.length sz))] } [b] [σ, s]

theorem AStepF.base {P : Program} {st : St} {o : AOp} {δ : Delta} {rb rs : List Nat} (h : AStepF P st o δ rb rs) : AStep P st o δ := by
  cases h with
  | skip h => exact .skip h
  | op h hδ hp => exact .op h hδ hp
  | call h ho hc => exact .call h ho hc
  | callv h ho hF hn hc => exact .callv h ho hF hn hc
  | eld h ho hY hs hi hj h0 hel hcl hσ hb hl hs2 => exact .eld h ho hY hs hi hj h0 hel hcl hσ hb hl hs2

theorem on_local {st st' : St} {o : AOp} (h : ∀ x ∈ o.looks, st'.val x = st.val x) : o.on st' = o.on st := by
  unfold AOp.on
  unfold AOp.looks at h
  cases hg : o.guard with
  | none => rfl
  | some g =>
    obtain ⟨x, want⟩ := g
    rw [hg] at h
    simp only
    rw [h x (by simp)]

theorem freshAll_agree {d : Nat} {S S' : Stats} : ∀ {l : Stats}, (∀ σ ∈ (rsS d l).map (·.1), lookS S' σ = lookS S σ) → freshAll d S l → freshAll d S' l
  | [], _, _ => trivial
  | (k, x) :: r, h, ⟨h1, h2, h3⟩ => ⟨h1, by rw [h (16 * d + k) (by simp [rsS]), h2], freshAll_agree (fun σ hs => h σ (by simp only [rsS, List.map_cons]; exact List.mem_cons_of_mem _ hs)) h3⟩

theorem lent_agree {S S' : Stats} {E : Option (List Nat)} {σ : Nat} (h : lookS S' σ = lookS S σ) (hl : lent S E σ) : lent S' E σ := by unfold lent at hl ⊢; rw [h]; exact hl

theorem relC_agree {M : Mp} {S S' : Stats} {E : Option (List Nat)} {B : Bm} {x y : V} (h : ∀ σ ∈ x.stamp1, lookS S' σ = lookS S σ) (hr : relC M S E B x y) : relC M S' E B x y := by
  by_cases hy : y = .undef
  · subst hy; cases x <;> simp [relC]
  cases x <;> cases y <;> simp only [relC] at hr ⊢ <;> first | exact hr.elim | exact absurd rfl hy | exact hr | skip
  case sl.sl σ sz xs τ sz' ys =>
    cases σ with
    | none => cases τ <;> exact hr
    | some σ =>
      cases τ with
      | none =>
        simp only [relC] at hr ⊢
        exact ⟨hr.1, hr.2.1, lent_agree (h σ (by simp [V.stamp1])) hr.2.2.1, hr.2.2.2⟩
      | some k =>
        simp only [relC, fullM] at hr ⊢
        rw [h σ (by simp [V.stamp1])]
        exact hr
  case nils.sl τ sz ys => cases τ <;> exact hr
  case bb.bb e σ l e' k l' =>
    simp only [fullM] at hr ⊢
    rw [h σ (by simp [V.stamp1])]
    exact hr
  case vw.sl σ tt sz xs τ sz' ys =>
    cases τ with
    | none =>
      simp only [relC] at hr ⊢
      exact ⟨hr.1, hr.2.1, lent_agree (h σ (by simp [V.stamp1])) hr.2.2.1, hr.2.2.2⟩
    | some k =>
      cases tt with
      | none => exact hr
      | some tt =>
        simp only [relC, cutM] at hr ⊢
        rw [h σ (by simp [V.stamp1])]
        exact hr

theorem relCs_agree {M : Mp} {S S' : Stats} {E : Option (List Nat)} {B : Bm} : ∀ {xs ys : List V}, (∀ σ ∈ xs.flatMap V.stamp1, lookS S' σ = lookS S σ) → relCs M S E B xs ys → relCs M S' E B xs ys
  | [], [], _, _ => trivial
  | x :: r, y :: s, h, ⟨h1, h2⟩ => ⟨relC_agree (fun σ q => h σ (by rw [List.flatMap_cons]; exact List.mem_append_left _ q)) h1, relCs_agree (fun σ q => h σ (by rw [List.flatMap_cons]; exact List.mem_append_right _ q)) h2⟩
  | [], _ :: _, _, h => h.elim
  | _ :: _, [], _, h => h.elim

theorem relA_agree {M : Mp} {S S' : Stats} {E : Option (List Nat)} {B : Bm} {x y : V} (h : ∀ σ ∈ x.stamps, lookS S' σ = lookS S σ) (hr : relA M S E B x y) : relA M S' E B x y := by
  cases x
  case agg cs =>
    cases y
    case agg ds => exact relCs_agree h hr
    case undef => simp [relA, relC]
    case sl σ sz xs => cases σ <;> exact hr
    all_goals exact hr
  all_goals
    exact relC_agree (M := M) (S := S) (E := E) (B := B) (y := y) (by simpa [V.stamps, V.cells] using h) hr

theorem relAs_agree {M : Mp} {S S' : Stats} {E : Option (List Nat)} {B : Bm} : ∀ {xs ys : List V}, (∀ σ ∈ xs.flatMap V.stamps, lookS S' σ = lookS S σ) → relAs M S E B xs ys → relAs M S' E B xs ys
  | [], [], _, _ => trivial
  | x :: r, y :: s, h, ⟨h1, h2⟩ => ⟨relA_agree (fun σ q => h σ (by rw [List.flatMap_cons]; exact List.mem_append_left _ q)) h1, relAs_agree (fun σ q => h σ (by rw [List.flatMap_cons]; exact List.mem_append_right _ q)) h2⟩
  | [], _ :: _, _, h => h.elim
  | _ :: _, [], _, h => h.elim

theorem okM_agree {S S' : Stats} : ∀ {M : Mp}, (∀ σ ∈ oldsM M, lookS S' σ = lookS S σ) → okM S M → okM S' M
  | [], _, _ => trivial
  | (k, some σ, t, s) :: r, h, ⟨h1, h2, h3, h4⟩ => ⟨h1, h2, by rw [h σ (by simp [oldsM])]; exact h3, okM_agree (fun τ q => h τ (by simp [oldsM, q])) h4⟩
  | (k, none, t, s) :: r, h, ⟨h1, h2, h4⟩ => ⟨h1, h2, okM_agree (fun τ q => h τ (by simp [oldsM, q])) h4⟩

theorem boxStamps_mem {bx : List (Nat × List V)} : ∀ {B : Bm} {m b : Nat} {cs : List V}, lookN B m = some b → lookB bx b = some cs → ∀ σ ∈ cs.flatMap V.stamp1, σ ∈ boxStamps bx B
  | [], m, b, cs, h, _, _, _ => by simp [lookN] at h
  | (n, o) :: r, m, b, cs, h, hb, σ, hσ => by
    simp only [lookN] at h
    simp only [boxStamps]
    by_cases e : m = n
    · rw [if_pos e] at h
      cases h
      rw [hb]
      exact List.mem_append_left _ hσ
    · rw [if_neg e] at h
      exact List.mem_append_right _ (boxStamps_mem h hb σ hσ)

theorem lookN_mem {B : Bm} {m b : Nat} : lookN B m = some b → b ∈ B.map (·.2) := by
  induction B with
  | nil => intro h; simp [lookN] at h
  | cons x r ih =>
    obtain ⟨n, o⟩ := x
    intro h
    simp only [lookN] at h
    by_cases e : m = n
    · rw [if_pos e] at h; cases h; simp
    · rw [if_neg e] at h; simp [ih h]

theorem okB_agree {M : Mp} {S S' : Stats} {E : Option (List Nat)} {bx bx' : List (Nat × List V)} {B : Bm} (hb : ∀ b ∈ B.map (·.2), lookB bx' b = lookB bx b) (h : ∀ σ ∈ boxStamps bx B, lookS S' σ = lookS S σ) :
    ∀ {B' : List (Nat × List V)}, okB M S E bx B B' → okB M S' E bx' B B'
  | [], _ => trivial
  | (b, cs) :: r, ⟨h1, h2⟩ => by
    refine ⟨?_, okB_agree hb h h2⟩
    cases e : lookN B b with
    | none => rw [e] at h1; exact h1.elim
    | some o =>
      rw [e] at h1
      simp only at h1 ⊢
      rw [hb o (lookN_mem e)]
      cases e2 : lookB bx o with
      | none => rw [e2] at h1; exact h1.elim
      | some ds =>
        rw [e2] at h1
        exact relCs_agree (fun σ q => h σ (boxStamps_mem e e2 σ q)) h1

theorem boxStamps_agree {bx bx' : List (Nat × List V)} : ∀ {B : Bm}, (∀ b ∈ B.map (·.2), lookB bx' b = lookB bx b) → boxStamps bx' B = boxStamps bx B
  | [], _ => rfl
  | (n, o) :: r, h => by
    simp only [boxStamps]
    rw [h o (by simp), boxStamps_agree fun b q => h b (by simp only [List.map_cons, List.mem_cons]; exact .inr q)]

theorem CallTo.local {P : Program} {f : Nat} {xs : List V} {st st' : St} {d : Nat} {δ : Delta} {rb rs : List Nat} (h : CallTo P f xs st d δ rb rs) (hb' : ∀ b ∈ rb, lookB st'.box b = lookB st.box b)
    (hs : ∀ σ ∈ rs, lookS st'.stat σ = lookS st.stat σ) : CallTo P f xs st' d δ rb rs := by
  cases h with
  | @gen as R bi bo M B D E nn hf hD hM hMs hN hNB hx hb hb2 hE hR hbo hr1 hr2 hnew hfr =>
    have hs1 : ∀ σ ∈ (rsS d (resStat R bo)).map (·.1), lookS st'.stat σ = lookS st.stat σ := fun σ q => hs σ (List.mem_append_left _ q)
    have hs2 : ∀ σ ∈ D, lookS st'.stat σ = lookS st.stat σ := fun σ q => hs σ (List.mem_append_right _ (List.mem_append_left _ q))
    have hS : ∀ σ, lookS st'.stat σ = lookS st.stat σ → lookS (toImm D ++ st'.stat) σ = lookS (toImm D ++ st.stat) σ := fun σ q => by rw [lookS_toImm, lookS_toImm, q]
    have hs3 : ∀ σ ∈ oldsM M, lookS (toImm D ++ st'.stat) σ = lookS (toImm D ++ st.stat) σ := fun σ q => hS σ (hs σ (List.mem_append_right _ (List.mem_append_right _ (List.mem_append_left _ q))))
    have hs4 : ∀ σ ∈ xs.flatMap V.stamps, lookS (toImm D ++ st'.stat) σ = lookS (toImm D ++ st.stat) σ := fun σ q =>
      hS σ (hs σ (List.mem_append_right _ (List.mem_append_right _ (List.mem_append_right _ (List.mem_append_left _ q)))))
    have hs5 : ∀ σ ∈ boxStamps st.box B, lookS (toImm D ++ st'.stat) σ = lookS (toImm D ++ st.stat) σ := fun σ q =>
      hS σ (hs σ (List.mem_append_right _ (List.mem_append_right _ (List.mem_append_right _ (List.mem_append_right _ q)))))
    have hb1 : ∀ b ∈ B.map (·.2), lookB st'.box b = lookB st.box b := fun b q => hb' b (List.mem_append_left _ q)
    have := CallTo.gen (P := P) (f := f) (xs := xs) (st := st') (d := d) hf (by rw [aliveAll_agree hs2]; exact hD) (okM_agree hs3 hM) hMs hN hNB (relAs_agree hs4 hx) (okB_agree hb1 hs5 hb) hb2 hE hR hbo hr1 hr2
      (fun q => by
        rw [hb' d (List.mem_append_right _ ?_)]
        · exact hnew q
        · cases nn with
          | none => exact absurd rfl q
          | some k => simp [newB]) (freshAll_agree hs1 hfr)
    rw [boxStamps_agree hb1] at this
    exact this

theorem AStepF.local {P : Program} {st st' : St} {o : AOp} {δ : Delta} {rb rs : List Nat} (h : AStepF P st o δ rb rs) (ha : Agree st st' o.looks rb rs) : AStepF P st' o δ rb rs := by
  have hon := on_local ha.v
  have hxs : ∀ x ∈ o.op.xs, st'.val x = st.val x := fun x hx => ha.v x (List.mem_append_left _ hx)
  cases h with
  | skip h => exact .skip (by rw [hon, h])
  | op h hδ hp =>
    have := AStepF.op (P := P) (st := st') (o := o) (by rw [hon, h]) (by rw [astep_local ⟨hxs, ha.b, ha.s⟩]; exact hδ) hp
    rw [foot_local hxs] at this
    exact this
  | @call f xs _ _ _ h ho hc =>
    have hm : xs.map st'.val = xs.map st.val := List.map_congr_left fun x hx => hxs x (by rw [ho]; exact hx)
    refine AStepF.call (P := P) (st := st') (o := o) (by rw [hon, h]) ho ?_
    rw [hm]
    exact hc.local ha.b ha.s
  | @callv F f caps xs _ _ _ h ho hF hn hc =>
    have hm : xs.map st'.val = xs.map st.val := List.map_congr_left fun x hx => hxs x (by rw [ho]; exact List.mem_cons_of_mem _ hx)
    refine AStepF.callv (P := P) (st := st') (o := o) (by rw [hon, h]) ho (by rw [hxs F (by rw [ho]; exact List.mem_cons_self)]; exact hF) hn ?_
    rw [hm]
    exact hc.local ha.b ha.s
  | @eld m i j b l s y x σ sz xs cs0 h ho hY hs hi hj h0 hel hcl hσ hb hl hs2 =>
    have ey : st'.val y = st.val y := hxs y (by rw [ho]; simp [AO.xs])
    have ex : st'.val x = st.val x := hxs x (by rw [ho]; simp [AO.xs])
    have := AStepF.eld (P := P) (st := st') (o := o) (s := s) (by rw [hon, h]) ho (by rw [ey]; exact hY) (by rw [ha.s σ (by simp)]; exact hs) hi hj h0 (by rw [ex]; exact hel) (by rw [ex]; exact hcl) (by rw [ex]; exact hσ) (by rw [ha.b b (by simp)]; exact hb) hl (by rw [ha.s s (by simp)]; exact hs2)
    rw [ex] at this
    exact this
end

section

/-- Two states that say the same. -/
structure Eqv (st st' : St) : Prop where
  e : ∀ t, look st'.env t = look st.env t
  l : ∀ t, look st'.loc t = look st.loc t
  b : ∀ b, lookB st'.box b = lookB st.box b
  s : ∀ σ, lookS st'.stat σ = lookS st.stat σ

theorem Eqv.refl (st : St) : Eqv st st := ⟨fun _ => rfl, fun _ => rfl, fun _ => rfl, fun _ => rfl⟩
theorem Eqv.trans {a b c : St} (h : Eqv a b) (k : Eqv b c) : Eqv a c :=
  ⟨fun t => (k.e t).trans (h.e t), fun t => (k.l t).trans (h.l t), fun t => (k.b t).trans (h.b t), fun t => (k.s t).trans (h.s t)⟩
theorem Eqv.symm {a b : St} (h : Eqv a b) : Eqv b a := ⟨fun t => (h.e t).symm, fun t => (h.l t).symm, fun t => (h.b t).symm, fun t => (h.s t).symm⟩

theorem Eqv.val {a b : St} (h : Eqv a b) (x : AX) : b.val x = a.val x := by
  cases x <;> simp only [St.val, h.e, h.l]

theorem lookB_append (l m : List (Nat × List V)) (t : Nat) : lookB (l ++ m) t = match lookB l t with
    | some c => some c
    | none => lookB m t := by
  induction l with
  | nil => rfl
  | cons x r ih =>
    obtain ⟨k, v⟩ := x
    simp only [List.cons_append, lookB]
    by_cases e : t = k
    · simp [e]
    · simp [e, ih]

theorem lookB_none {l : List (Nat × List V)} {t : Nat} (h : t ∉ l.map (·.1)) : lookB l t = none := by
  induction l with
  | nil => rfl
  | cons x r ih =>
    obtain ⟨k, v⟩ := x
    simp only [List.map_cons, List.mem_cons, not_or] at h
    simp only [lookB, if_neg h.1]
    exact ih h.2

theorem lookB_skip {l m : List (Nat × List V)} {t : Nat} (h : t ∉ l.map (·.1)) : lookB (l ++ m) t = lookB m t := by
  rw [lookB_append, lookB_none h]

theorem lookS_skip {l m : Stats} {t : Nat} (h : t ∉ l.map (·.1)) : lookS (l ++ m) t = lookS m t := by
  induction l with
  | nil => rfl
  | cons x r ih =>
    obtain ⟨k, v⟩ := x
    simp only [List.map_cons, List.mem_cons, not_or] at h
    simp only [List.cons_append, lookS, if_neg h.1]
    exact ih h.2

theorem lookB_hit {l m m' : List (Nat × List V)} {t : Nat} (h : t ∈ l.map (·.1)) : lookB (l ++ m) t = lookB (l ++ m') t := by
  induction l with
  | nil => simp at h
  | cons x r ih =>
    obtain ⟨k, v⟩ := x
    simp only [List.cons_append, lookB]
    by_cases e : t = k
    · simp [e]
    · simp only [if_neg e]
      exact ih (by simpa [e] using h)

theorem lookS_hit {l m m' : Stats} {t : Nat} (h : t ∈ l.map (·.1)) : lookS (l ++ m) t = lookS (l ++ m') t := by
  induction l with
  | nil => simp at h
  | cons x r ih =>
    obtain ⟨k, v⟩ := x
    simp only [List.cons_append, lookS]
    by_cases e : t = k
    · simp [e]
    · simp only [if_neg e]
      exact ih (by simpa [e] using h)

theorem apply_box (δ : Delta) (st : St) (d : AD) : (δ.apply st d).box = δ.nb ++ st.box := by cases d <;> rfl
theorem apply_stat (δ : Delta) (st : St) (d : AD) : (δ.apply st d).stat = δ.ns ++ st.stat := by cases d <;> rfl

theorem apply_val {δ : Delta} {st : St} {d : AD} {x : AX} (h : d.ax ≠ some x) : (δ.apply st d).val x = st.val x := by
  cases d with
  | no => cases x <;> rfl
  | l k =>
    cases x <;> try rfl
    rename_i t
    have : t ≠ k := fun e => h (by rw [e]; rfl)
    simp [Delta.apply, St.put, St.val, look, this]
  | g k =>
    cases x <;> try rfl
    rename_i t
    have : t ≠ k := fun e => h (by rw [e]; rfl)
    simp [Delta.apply, St.put, St.val, look, this]

theorem Eqv.apply {a b : St} (h : Eqv a b) (δ : Delta) (d : AD) : Eqv (δ.apply a d) (δ.apply b d) := by
  have hb : ∀ t, lookB (δ.nb ++ b.box) t = lookB (δ.nb ++ a.box) t := fun t => by rw [lookB_append, lookB_append, h.b]
  have hs : ∀ t, lookS (δ.ns ++ b.stat) t = lookS (δ.ns ++ a.stat) t := fun t => by
    by_cases e : t ∈ δ.ns.map (·.1)
    · exact lookS_hit e
    · rw [lookS_skip e, lookS_skip e, h.s]
  refine ⟨?_, ?_, ?_, ?_⟩
  · cases d <;> intro t <;> simp only [Delta.apply, St.put, look, h.e]
  · cases d <;> intro t <;> simp only [Delta.apply, St.put, look, h.l]
  · simp only [apply_box]; exact hb
  · simp only [apply_stat]; exact hs

/-- One operation, as it was carried out in the order of the text. -/
structure Item where
  i : Nat
  o : AOp
  δ : Delta
  rb : List Nat
  rs : List Nat

def disj (a b : List Nat) : Prop := ∀ x ∈ a, x ∉ b

/-- Slots that do not touch. -/
structure Apart (x y : AOp) : Prop where
  h1 : ∀ d, x.dst.ax = some d → d ∉ y.looks
  h2 : ∀ d, y.dst.ax = some d → d ∉ x.looks
  h3 : ∀ d, x.dst.ax = some d → y.dst.ax ≠ some d

structure Indep (x y : Item) : Prop where
  s : Apart x.o y.o
  b1 : disj (x.δ.nb.map (·.1)) y.rb
  b2 : disj (y.δ.nb.map (·.1)) x.rb
  b3 : disj (x.δ.nb.map (·.1)) (y.δ.nb.map (·.1))
  s1 : disj (x.δ.ns.map (·.1)) y.rs
  s2 : disj (y.δ.ns.map (·.1)) x.rs
  s3 : disj (x.δ.ns.map (·.1)) (y.δ.ns.map (·.1))

inductive Goes (P : Program) : St → List Item → St → Prop
  | nil {st st' : St} (h : Eqv st st') : Goes P st [] st'
  | cons {st st' : St} {x : Item} {r : List Item} (h : AStepF P st x.o x.δ x.rb x.rs) (hr : Goes P (x.δ.apply st x.o.dst) r st') : Goes P st (x :: r) st'

variable {P : Program}

theorem Eqv.step {st st1 : St} (he : Eqv st st1) {o : AOp} {δ : Delta} {rb rs : List Nat} (h : AStepF P st o δ rb rs) : AStepF P st1 o δ rb rs :=
  h.local ⟨fun x _ => he.val x, fun b _ => he.b b, fun σ _ => he.s σ⟩

theorem Goes.eqv {st st1 st' : St} {l : List Item} (he : Eqv st st1) (h : Goes P st l st') : Goes P st1 l st' := by
  induction h generalizing st1 with
  | nil h => exact .nil (he.symm.trans h)
  | cons h hr ih => exact .cons (he.step h) (ih (he.apply _ _))

/-- Looked at before and after a step that does not touch it. -/
theorem agree_apply {st : St} {x : Item} {o : AOp} {rb rs : List Nat} (h1 : ∀ d, x.o.dst.ax = some d → d ∉ o.looks) (h2 : disj (x.δ.nb.map (·.1)) rb) (h3 : disj (x.δ.ns.map (·.1)) rs) :
    Agree st (x.δ.apply st x.o.dst) o.looks rb rs :=
  ⟨fun y hy => apply_val fun e => h1 y e hy, fun b hb => by rw [apply_box, lookB_skip fun e => h2 b e hb], fun σ hs => by rw [apply_stat, lookS_skip fun e => h3 σ e hs]⟩

theorem Agree.symm {st st' : St} {xs : List AX} {rb rs : List Nat} (h : Agree st st' xs rb rs) : Agree st' st xs rb rs :=
  ⟨fun x hx => (h.v x hx).symm, fun x hx => (h.b x hx).symm, fun x hx => (h.s x hx).symm⟩

theorem swap_eqv {st : St} {x y : Item} (h : Indep x y) : Eqv (y.δ.apply (x.δ.apply st x.o.dst) y.o.dst) (x.δ.apply (y.δ.apply st y.o.dst) x.o.dst) := by
  refine ⟨fun t => ?_, fun t => ?_, fun t => ?_, fun t => ?_⟩
  · have h3 := h.s.h3
    cases hx : x.o.dst <;> cases hy : y.o.dst <;> simp only [Delta.apply, St.put, look]
    rw [hx, hy] at h3
    have := h3 _ rfl
    rename_i a b
    have hab : a ≠ b := fun e => this (by rw [e]; rfl)
    by_cases e1 : t = a
    · simp [e1, hab]
    · by_cases e2 : t = b <;> simp [e1, e2, Ne.symm hab]
  · have h3 := h.s.h3
    cases hx : x.o.dst <;> cases hy : y.o.dst <;> simp only [Delta.apply, St.put, look]
    rw [hx, hy] at h3
    have := h3 _ rfl
    rename_i a b
    have hab : a ≠ b := fun e => this (by rw [e]; rfl)
    by_cases e1 : t = a
    · simp [e1, hab]
    · by_cases e2 : t = b <;> simp [e1, e2, Ne.symm hab]
  · simp only [apply_box]
    by_cases e1 : t ∈ x.δ.nb.map (·.1)
    · rw [lookB_hit e1 (m' := st.box), lookB_skip (h.b3 t e1)]
    · rw [lookB_skip e1]
      by_cases e2 : t ∈ y.δ.nb.map (·.1)
      · exact lookB_hit e2
      · rw [lookB_skip e2, lookB_skip e2, lookB_skip e1]
  · simp only [apply_stat]
    by_cases e1 : t ∈ x.δ.ns.map (·.1)
    · rw [lookS_hit e1 (m' := st.stat), lookS_skip (h.s3 t e1)]
    · rw [lookS_skip e1]
      by_cases e2 : t ∈ y.δ.ns.map (·.1)
      · exact lookS_hit e2
      · rw [lookS_skip e2, lookS_skip e2, lookS_skip e1]

theorem Goes.front {st' : St} {x : Item} {l2 : List Item} : ∀ {l1 : List Item} {st : St}, (∀ y ∈ l1, Indep y x) → Goes P st (l1 ++ x :: l2) st' → Goes P st (x :: (l1 ++ l2)) st'
  | [], st, _, h => h
  | y :: r, st, hi, h => by
    cases h with
    | cons hy hr =>
      have hf := Goes.front (fun z hz => hi z (List.mem_cons_of_mem _ hz)) hr
      have hyx := hi y List.mem_cons_self
      cases hf with
      | cons hx hr2 =>
        have hx0 : AStepF P st x.o x.δ x.rb x.rs := hx.local (agree_apply hyx.s.h1 hyx.b1 hyx.s1).symm
        have hy1 : AStepF P (x.δ.apply st x.o.dst) y.o y.δ y.rb y.rs := hy.local (agree_apply hyx.s.h2 hyx.b2 hyx.s2)
        exact .cons hx0 (.cons hy1 (hr2.eqv (swap_eqv hyx)))

/-! ## Which operations are ordered -/

/-- The operations that an operation must follow, as a set of bits. -/
def beforeMask (o : Oper) (A : List Nat) : Nat :=
  o.after.toList.foldl (fun m e => if Region.binds .any e then m ||| (1 <<< e.on) ||| A.getD e.on 0 else m) 0

def masks : List Oper → List Nat → List Nat
  | [], A => A
  | o :: r, A => masks r (A ++ [beforeMask o A])

def ordOk (A : List Nat) : List Oper → Nat → Bool
  | [], _ => true
  | o :: r, i => A.getD i 0 == beforeMask o A && (o.after.toList.all fun e => !Region.binds .any e || decide (e.on < i)) && ordOk A r (i + 1)

theorem ordOk_spec {A : List Nat} : ∀ {l : List Oper} {i : Nat}, ordOk A l i = true → ∀ k (h : k < l.length), A.getD (i + k) 0 = beforeMask l[k] A ∧ ∀ e ∈ l[k].after, Region.binds .any e = true → e.on < i + k
  | o :: r, i, h, k, hk => by
    simp only [ordOk, Bool.and_eq_true, beq_iff_eq, List.all_eq_true, Bool.or_eq_true, Bool.not_eq_true', decide_eq_true_eq] at h
    cases k with
    | zero =>
      refine ⟨h.1.1, fun e he hb => ?_⟩
      rcases h.1.2 e (Array.mem_toList_iff.2 he) with q | q
      · rw [hb] at q; cases q
      · exact q
    | succ k =>
      have := ordOk_spec h.2 k (by simpa using hk)
      rw [show i + (k + 1) = i + 1 + k from by omega]
      exact this

theorem mask_fold {A : List Nat} {k : Nat} : ∀ {l : List Edge} {m : Nat}, (l.foldl (fun m e => if Region.binds .any e then m ||| (1 <<< e.on) ||| A.getD e.on 0 else m) m).testBit k = true →
    m.testBit k = true ∨ ∃ e ∈ l, Region.binds .any e = true ∧ (k = e.on ∨ (A.getD e.on 0).testBit k = true)
  | [], m, h => .inl h
  | e :: r, m, h => by
    rw [List.foldl_cons] at h
    rcases mask_fold h with h | ⟨e', he, hb⟩
    · by_cases q : Region.binds .any e = true
      · rw [if_pos q] at h
        simp only [Nat.testBit_or, Bool.or_eq_true, Nat.one_shiftLeft, Nat.testBit_two_pow, decide_eq_true_eq] at h
        rcases h with (h | h) | h
        · exact .inl h
        · exact .inr ⟨e, List.mem_cons_self, q, .inl h.symm⟩
        · exact .inr ⟨e, List.mem_cons_self, q, .inr h⟩
      · rw [if_neg q] at h; exact .inl h
    · exact .inr ⟨e', List.mem_cons_of_mem _ he, hb⟩

section
variable {L : Nat → Bool} {n : Nat} {K : Ctx}

def Down (ops : Array Oper) (listed : Array Bool) : Prop :=
  ∀ j o, ops[j]? = some o → listed.getD j false = true → ∀ e ∈ o.after, Region.binds .any e = true → listed.getD e.on false = true

theorem mask_listed {ops : Array Oper} {A : List Nat} (hA : ordOk A ops.toList 0 = true) {listed : Array Bool} (hd : Down ops listed) {k : Nat} :
    ∀ (i : Nat) (o : Oper), ops[i]? = some o → (∀ e ∈ o.after, Region.binds .any e = true → listed.getD e.on false = true) → (A.getD i 0).testBit k = true → listed.getD k false = true := by
  intro i
  induction i using Nat.strongRecOn with
  | _ i ih =>
    intro o ho hall hbit
    have hlt : i < ops.toList.length := by simpa using (Array.getElem?_eq_some_iff.1 ho).1
    obtain ⟨h1, h2⟩ := ordOk_spec hA i hlt
    have hoi : ops.toList[i] = o := by
      have := (Array.getElem?_eq_some_iff.1 ho).2
      simpa using this
    rw [hoi, Nat.zero_add] at h1 h2
    rw [h1] at hbit
    rcases mask_fold hbit with q | ⟨e, he, hb, hk⟩
    · simp at q
    · have he' : e ∈ o.after := Array.mem_toList_iff.1 he
      rcases hk with rfl | hk
      · exact hall e he' hb
      · have hlt2 := h2 e he' hb
        have hes : e.on < ops.size := by
          have := (Array.getElem?_eq_some_iff.1 ho).1
          omega
        exact ih e.on hlt2 ops[e.on] (Array.getElem?_eq_getElem hes) (hd e.on _ (Array.getElem?_eq_getElem hes) (hall e he' hb)) hk

/-- The operations that follow all that lie ahead of them, carried out in the order of the text. -/
theorem tail_wp (hK : K.ok) {ops : Array Oper} {A : List Nat} (hA : ordOk A ops.toList 0 = true) {Q : Exit → Act → World → Prop} {Qa : St → Prop} (hq : ∀ st γ a w, SRel L n K st γ a w → Qa st → Q .normal a w) :
    ∀ (lt : List AOp) (m : Nat) (listed : Array Bool) {st : St} {γ : Ghost} {a : Act} {w : World}, ops.size = m + lt.length → (∀ k (h : k < lt.length), ∃ o, ops[m + k]? = some o ∧ stripOp P L n ops o = some lt[k]) →
      (∀ i, m ≤ i → i < ops.size → ∀ j < i, (A.getD i 0).testBit j = true) → listed.size = ops.size → (∀ i, i < ops.size → (listed.getD i true = false ↔ m ≤ i)) → Down ops listed → SRel L n K st γ a w → aops P lt st Qa →
      wpAny P .any ops Q lt.length listed a w := by
  intro lt
  induction lt with
  | nil =>
    intro m listed st γ a w hsz hit hfull hls hmem hdn hr h
    refine ⟨?_, hq _ _ _ _ hr h⟩
    refine List.eq_nil_iff_forall_not_mem.2 fun j hj => ?_
    obtain ⟨h1, o, h2, _⟩ := mem_ready.1 hj
    have h3 := (Array.getElem?_eq_some_iff.1 h2).1
    have := (hmem j h3).1 h1
    simp at hsz; omega
  | cons o r ih =>
    intro m listed st γ a w hsz hit hfull hls hmem hdn hr h
    simp only [List.length_cons] at hsz
    have hft : ∀ j, j < ops.size → listed.getD j true = true → listed.getD j false = true := fun j hj h => by
      have hj' : j < listed.size := by omega
      simpa [hj'] using h
    have htf : ∀ j, listed.getD j false = true → listed.getD j true = true := fun j h => by
      rcases Nat.lt_or_ge j listed.size with h' | h'
      · simpa [h'] using h
      · simp [h']
    obtain ⟨oo, e1, e2⟩ := hit 0 (by simp)
    rw [Nat.add_zero] at e1
    have hm : m < ops.size := by omega
    refine ⟨fun hno => ?_, fun i hi => ?_⟩
    · exfalso
      have : m ∈ Region.ready .any ops listed := by
        refine mem_ready.2 ⟨(hmem m hm).2 (Nat.le_refl _), oo, e1, fun e he hb => ?_⟩
        obtain ⟨_, h4⟩ := ordOk_spec hA m (by simpa using hm)
        have hoi : ops.toList[m]'(by simpa using hm) = oo := by
          have := (Array.getElem?_eq_some_iff.1 e1).2
          simpa using this
        rw [hoi] at h4
        have hlt2 := h4 e he hb
        rw [Nat.zero_add] at hlt2
        refine hft _ (by omega) ?_
        cases q : listed.getD e.on true with
        | true => rfl
        | false => have := (hmem e.on (by omega)).1 q; omega
      rw [hno] at this
      cases this
    · obtain ⟨hun, o2, ho2, hall⟩ := mem_ready.1 hi
      have hlt := (Array.getElem?_eq_some_iff.1 ho2).1
      have hmi := (hmem i hlt).1 hun
      have him : i = m := by
        rcases Nat.lt_or_ge m i with q | q
        · exfalso
          have h5 := mask_listed hA hdn i o2 ho2 hall (hfull i hmi hlt m q)
          have h6 := htf _ h5
          have h7 := (hmem m hm).2 (Nat.le_refl _)
          rw [h6] at h7; cases h7
        · omega
      subst him
      obtain ⟨st', h1, h2⟩ := aops_step h
      refine AStepS.wp hK hr (o := oo) e1 e2 h1 (fun γ' a' w' hr' => ?_)
      refine ih (i + 1) _ (by omega) (fun k hk => ?_) (fun i' h3 h4 => hfull i' (by omega) h4) (by simp [hls]) (fun j hj => ?_) (fun j o ho hlj e he hb => ?_) hr' h2
      · obtain ⟨o3, f1, f2⟩ := hit (k + 1) (by simpa using hk)
        exact ⟨o3, by rw [show i + 1 + k = i + (k + 1) from by omega]; exact f1, by simpa using f2⟩
      · by_cases e : i = j
        · subst e
          have : (listed.setIfInBounds i true).getD i true = true := by
            have hlt' : i < listed.size := by omega
            simp [hlt']
          rw [this]
          simp
        · rw [getD_set_ne true e, hmem j hj]; omega
      · by_cases q : i = j
        · subst q
          rw [e1] at ho
          obtain rfl := Option.some.inj ho
          have : oo = o2 := by rw [e1] at ho2; exact Option.some.inj ho2
          subst this
          exact getD_set_true (hall e he hb)
        · rw [getD_set_ne false q] at hlj
          exact getD_set_true (hdn j o ho hlj e he hb)

theorem any_wp (hK : K.ok) {ops : Array Oper} {A : List Nat} (hA : ordOk A ops.toList 0 = true) {Q : Exit → Act → World → Prop} {stf : St} {m r : Nat} (hfull : ∀ i, m ≤ i → i < ops.size → ∀ j < i, (A.getD i 0).testBit j = true)
    (hq : ∀ (listed : Array Bool) st γ a w, listed.size = ops.size → (∀ i, i < ops.size → (listed.getD i true = false ↔ m ≤ i)) → Down ops listed → SRel L n K st γ a w → Eqv stf st → wpAny P .any ops Q r listed a w) :
    ∀ (fuel : Nat) (l : List Item) (listed : Array Bool) {st : St} {γ : Ghost} {a : Act} {w : World}, l.length = fuel → listed.size = ops.size → (∀ x ∈ l, x.i < m) →
      (∀ i, i < ops.size → (listed.getD i true = false ↔ i ∈ l.map (·.i) ∨ m ≤ i)) →
      (∀ x ∈ l, ∃ oo, ops[x.i]? = some oo ∧ stripOp P L n ops oo = some x.o) →
      l.Pairwise (fun y x => Indep y x ∨ (A.getD x.i 0).testBit y.i = true) → l.Pairwise (fun y x => y.i < x.i) → Down ops listed → Goes P st l stf → SRel L n K st γ a w →
      wpAny P .any ops Q (fuel + r) listed a w := by
  intro fuel
  induction fuel with
  | zero =>
    intro l listed st γ a w hl hsz hlm hmem hit hpw hso hdn hgo hr
    have : l = [] := List.eq_nil_of_length_eq_zero hl
    subst this
    rw [Nat.zero_add]
    cases hgo with
    | nil he => exact hq listed _ γ a w hsz (fun i hi => by rw [hmem i hi]; simp) hdn hr he.symm
  | succ fuel ih =>
    intro l listed st γ a w hl hsz hlm hmem hit hpw hso hdn hgo hr
    rw [show fuel + 1 + r = (fuel + r) + 1 from by omega]
    have hft : ∀ j, j < ops.size → listed.getD j true = true → listed.getD j false = true := fun j hj h => by
      have hj' : j < listed.size := by omega
      simpa [hj'] using h
    have htf : ∀ j, listed.getD j false = true → listed.getD j true = true := fun j h => by
      rcases Nat.lt_or_ge j listed.size with h' | h'
      · simpa [h'] using h
      · simp [h']
    refine ⟨fun hno => ?_, fun i hi => ?_⟩
    · exfalso
      cases l with
      | nil => simp at hl
      | cons x r =>
        obtain ⟨oo, h1, h2⟩ := hit x List.mem_cons_self
        have hlt := (Array.getElem?_eq_some_iff.1 h1).1
        have : x.i ∈ Region.ready .any ops listed := by
          refine mem_ready.2 ⟨(hmem _ hlt).2 (by simp), oo, h1, fun e he hb => ?_⟩
          obtain ⟨_, h4⟩ := ordOk_spec hA x.i (by simpa using hlt)
          have hoi : ops.toList[x.i]'(by simpa using hlt) = oo := by
            have := (Array.getElem?_eq_some_iff.1 h1).2
            simpa using this
          rw [hoi] at h4
          have hlt2 := h4 e he hb
          rw [Nat.zero_add] at hlt2
          refine hft _ (by omega) ?_
          cases q : listed.getD e.on true with
          | true => rfl
          | false =>
            have hxm := hlm x List.mem_cons_self
            rcases (hmem e.on (by omega)).1 q with this | this
            rotate_left
            · omega
            obtain ⟨y, hy, hye⟩ := List.mem_map.1 this
            rcases List.mem_cons.1 hy with rfl | hy
            · omega
            · have := (List.pairwise_cons.1 hso).1 y hy
              omega
        rw [hno] at this
        cases this
    · obtain ⟨hun, oo, hoo, hall⟩ := mem_ready.1 hi
      have hlt := (Array.getElem?_eq_some_iff.1 hoo).1
      have hil : i ∈ l.map (·.i) := by
        rcases (hmem i hlt).1 hun with q | q
        · exact q
        · exfalso
          cases l with
          | nil => simp at hl
          | cons y r =>
            have hym := hlm y List.mem_cons_self
            obtain ⟨yo, hyo, _⟩ := hit y List.mem_cons_self
            have hylt := (Array.getElem?_eq_some_iff.1 hyo).1
            have h5 := mask_listed hA hdn i oo hoo hall (hfull i q hlt y.i (by omega))
            have h6 := htf _ h5
            have h7 := (hmem y.i hylt).2 (.inl (by simp))
            rw [h6] at h7; cases h7
      obtain ⟨x, hx, hxi⟩ := List.mem_map.1 hil
      obtain ⟨l1, l2, rfl⟩ := List.append_of_mem hx
      subst hxi
      have hp := List.pairwise_append.1 hpw
      have hs := List.pairwise_append.1 hso
      have hind : ∀ y ∈ l1, Indep y x := fun y hy => by
        rcases hp.2.2 y hy x List.mem_cons_self with q | q
        · exact q
        · have h5 := mask_listed hA hdn x.i oo hoo hall q
          have h6 := htf _ h5
          obtain ⟨yo, hyo, _⟩ := hit y (List.mem_append_left _ hy)
          have h7 := (hmem y.i (Array.getElem?_eq_some_iff.1 hyo).1).2 (.inl (List.mem_map.2 ⟨y, List.mem_append_left _ hy, rfl⟩))
          rw [h6] at h7; cases h7
      have hgf := hgo.front hind
      cases hgf with
      | cons hst hgr =>
        obtain ⟨oo', h1, h2⟩ := hit x hx
        refine AStep.wp hK hr h1 h2 hst.base (fun γ' a' w' hr' => ?_)
        refine ih (l1 ++ l2) _ (by simp at hl ⊢; omega) (by simp [hsz]) (fun y hy => hlm y ?_) (fun j hj => ?_) (fun y hy => hit y ?_) ?_ ?_ (fun j o ho hlj e he hb => ?_) hgr hr'
        · rcases List.mem_append.1 hy with hy | hy
          · exact List.mem_append_left _ hy
          · exact List.mem_append_right _ (List.mem_cons_of_mem _ hy)
        · by_cases e : x.i = j
          · subst e
            have : (listed.setIfInBounds x.i true).getD x.i true = true := by
              have hlt' : x.i < listed.size := by omega
              simp [hlt']
            rw [this]
            refine ⟨fun h => (by cases h), fun h => ?_⟩
            exfalso
            rcases h with h | h
            rotate_left
            · have := hlm x hx; omega
            obtain ⟨y, hy, hye⟩ := List.mem_map.1 h
            rcases List.mem_append.1 hy with hy | hy
            · have := hs.2.2 y hy x List.mem_cons_self; omega
            · have := (List.pairwise_cons.1 hs.2.1).1 y hy; omega
          · rw [getD_set_ne true e, hmem j hj]
            simp only [List.map_append, List.map_cons, List.mem_append, List.mem_cons]
            constructor
            · rintro ((h | h | h) | h)
              · exact .inl (.inl h)
              · exact absurd h.symm e
              · exact .inl (.inr h)
              · exact .inr h
            · rintro ((h | h) | h)
              · exact .inl (.inl h)
              · exact .inl (.inr (.inr h))
              · exact .inr h
        · rcases List.mem_append.1 hy with hy | hy
          · exact List.mem_append_left _ hy
          · exact List.mem_append_right _ (List.mem_cons_of_mem _ hy)
        · exact List.pairwise_append.2 ⟨hp.1, (List.pairwise_cons.1 hp.2.1).2, fun y hy z hz => hp.2.2 y hy z (List.mem_cons_of_mem _ hz)⟩
        · exact List.pairwise_append.2 ⟨hs.1, (List.pairwise_cons.1 hs.2.1).2, fun y hy z hz => hs.2.2 y hy z (List.mem_cons_of_mem _ hz)⟩
        · by_cases e2 : x.i = j
          · subst e2
            rw [hoo] at ho
            obtain rfl := Option.some.inj ho
            exact getD_set_true (hall e he hb)
          · rw [getD_set_ne false e2] at hlj
            exact getD_set_true (hdn j o ho hlj e he hb)

end
end

end Go.Proofs.YtnhhcfbigjpfeaaDoor
