/-
  What a step of the abstract machine looks at and what it changes; steps that do not touch each other may change places.
-/
import Derived.Test.YtpiafiapjmldgaaReg
namespace Go.Proofs.Ytpiafiapjmldgaa
set_option linter.all false

/-- The operands. -/
def AO.xs : AO → List AX
  | .mv x | .box x | .nilc x | .un _ x | .conv _ x | .toStr x | .faddr _ x | .field _ _ _ x | .extract x _ | .len x | .lenStr x | .load _ _ x => [x]
  | .pick c a b => [c, a, b]
  | .alloc _ | .allocN _ _ | .lenArr _ => []
  | .build _ ps => ps.map fun p => p.2.2
  | .lits _ ps => ps
  | .store _ a x => [a, x]
  | .bin _ x y | .beq _ x y | .eqs _ _ x y | .elS _ x y | .elA _ _ x y | .idxStr x y | .idxArr _ _ _ x y | .min x y | .max x y | .append _ _ x y | .appStr _ x y => [x, y]
  | .mkfn _ xs => xs
  | .make _ _ _ l c => [l, c]
  | .cutStr x lo hi | .cutSl _ x lo hi => x :: (lo.toList ++ hi.toList)
  | .call _ xs => xs
  | .callv f xs => f :: xs

def AOp.looks (o : AOp) : List AX :=
  o.op.xs ++ match o.guard with
    | none => []
    | some (x, _) => [x]

def AD.ax : AD → Option AX
  | .no => none
  | .l d => some (.l d)
  | .g d => some (.g d)

/-- The variables, and the stamps, that a step looks at. -/
def foot (st : St) (d : Nat) : AO → List Nat × List Nat
  | .alloc _ | .allocN _ _ | .box _ => ([d], [])
  | .lits _ parts => ([], 16 * d :: (parts.map st.val).flatMap V.stamps)
  | .load _ _ a => match st.val a with
    | .ptr b _ => ([b], [])
    | .elp s _ _ => ([], s.stamp1)
    | _ => ([], [])
  | .store _ a _ => match st.val a with
    | .ptr b _ => ([b], [])
    | _ => ([], [])
  | .toStr x | .cutSl _ x _ _ | .elS _ x _ | .len x => ([], (st.val x).stamp1)
  | .make .. => ([], [16 * d])
  | .append _ _ x y => ([], 16 * d :: ((st.val x).stamp1 ++ (st.val y).stamp1))
  | .appStr _ x _ => ([], 16 * d :: (st.val x).stamp1)
  | _ => ([], [])

structure Agree (st st' : St) (xs : List AX) (rb rs : List Nat) : Prop where
  v : ∀ x ∈ xs, st'.val x = st.val x
  b : ∀ b ∈ rb, lookB st'.box b = lookB st.box b
  s : ∀ σ ∈ rs, lookS st'.stat σ = lookS st.stat σ

theorem alive_agree {S S' : Stats} {σ : Nat} (h : lookS S' σ = lookS S σ) : alive S' σ = alive S σ := by unfold alive; rw [h]

theorem aliveV_agree {S S' : Stats} {v : V} (h : ∀ σ ∈ v.stamp1, lookS S' σ = lookS S σ) : aliveV S' v = aliveV S v := by
  cases v with
  | sl σ sz xs =>
    cases σ with
    | none => rfl
    | some σ => exact alive_agree (h σ (by simp [V.stamp1]))
  | vw σ tt sz xs => exact alive_agree (h σ (by simp [V.stamp1]))
  | _ => rfl

theorem aliveAll_agree {S S' : Stats} : ∀ {l : List Nat}, (∀ σ ∈ l, lookS S' σ = lookS S σ) → aliveAll S' l = aliveAll S l
  | [], _ => rfl
  | σ :: r, h => by
    simp only [aliveAll]
    rw [alive_agree (h σ List.mem_cons_self), aliveAll_agree fun τ ht => h τ (List.mem_cons_of_mem _ ht)]

theorem elsOk_agree {sz : Nat} {S S' : Stats} : ∀ {l : List V}, (∀ σ ∈ l.flatMap V.stamps, lookS S' σ = lookS S σ) → elsOk sz S' l = elsOk sz S l
  | [], _ => rfl
  | x :: r, h => by
    simp only [elsOk]
    rw [aliveAll_agree fun τ ht => h τ (by simp [ht]), elsOk_agree fun τ ht => h τ (by rw [List.flatMap_cons]; exact List.mem_append_right _ ht)]

theorem boundO_agree {st st' : St} {d : Nat} {x : Option AX} (h : ∀ y ∈ x.toList, st'.val y = st.val y) : boundO st' d x = boundO st d x := by
  cases x with
  | none => rfl
  | some y => simp only [boundO]; rw [h y (by simp)]

theorem foot_local {st st' : St} {d : Nat} {op : AO} (hv : ∀ x ∈ op.xs, st'.val x = st.val x) : foot st' d op = foot st d op := by
  cases op <;> simp only [AO.xs, List.mem_cons, List.not_mem_nil, or_false, forall_eq_or_imp, forall_eq] at hv <;> simp only [foot] <;> first
    | rfl
    | (rw [hv]; done)
    | (rw [hv.1]; done)
    | (rw [hv.1, hv.2]; done)
    | (rw [List.map_congr_left hv]; done)

theorem astep_local {st st' : St} {d : Nat} {op : AO} (h : Agree st st' op.xs (foot st d op).1 (foot st d op).2) : astep st' d op = astep st d op := by
  obtain ⟨hv, hb, hs⟩ := h
  cases op
  case build z ps =>
    have : ps.map (fun (o, s, x) => (o, s, st'.val x)) = ps.map fun (o, s, x) => (o, s, st.val x) :=
      List.map_congr_left fun p hp => by
        obtain ⟨o, s, x⟩ := p
        have := hv x (List.mem_map.2 ⟨(o, s, x), hp, rfl⟩)
        simp only [this]
    simp only [astep, this]
  case lits sz ps =>
    have : ps.map st'.val = ps.map st.val := List.map_congr_left hv
    simp only [foot, List.mem_cons, forall_eq_or_imp] at hs
    simp only [astep, this]
    rw [hs.1, elsOk_agree hs.2]
  case mkfn f xs =>
    have : xs.map st'.val = xs.map st.val := List.map_congr_left hv
    simp only [astep, this]
  case call f xs => rfl
  case callv f xs => rfl
  case cutStr x lo hi =>
    simp only [AO.xs, List.mem_cons, forall_eq_or_imp] at hv
    simp only [astep]
    rw [hv.1]
    cases st.val x <;> try rfl
    simp only
    rw [boundO_agree (fun y hy => hv.2 y (List.mem_append_left _ hy)), boundO_agree (fun y hy => hv.2 y (List.mem_append_right _ hy))]
  case cutSl sz x lo hi =>
    simp only [AO.xs, List.mem_cons, forall_eq_or_imp] at hv
    simp only [foot] at hs
    have ha := aliveV_agree hs
    simp only [astep]
    rw [hv.1]
    revert ha hs
    cases st.val x <;> intro hs ha <;> try rfl
    all_goals simp only
    all_goals simp only [boundO_agree (fun y hy => hv.2 y (List.mem_append_left _ hy)), boundO_agree (fun y hy => hv.2 y (List.mem_append_right _ hy)), ha]
    rename_i σ sz' xs
    cases σ with
    | none => rfl
    | some σ =>
      have h0 := hs σ (by simp [V.stamp1])
      cases lo with
      | none => simp only [h0]
      | some q => rfl
  case load g n a =>
    simp only [AO.xs, List.mem_cons, List.not_mem_nil, or_false, forall_eq] at hv
    simp only [foot] at hb hs
    simp only [astep]
    rw [hv]
    revert hb hs
    cases st.val a <;> intro hb hs <;> try rfl
    · simp only [List.mem_cons, List.not_mem_nil, or_false, forall_eq] at hb
      simp only [hb]
    · simp only
      rw [aliveV_agree hs]
  case store n a x =>
    simp only [AO.xs, List.mem_cons, List.not_mem_nil, or_false, forall_eq_or_imp, forall_eq] at hv
    simp only [foot] at hb
    simp only [astep]
    rw [hv.1, hv.2]
    revert hb
    cases st.val a <;> intro hb <;> try rfl
    simp only [List.mem_cons, List.not_mem_nil, or_false, forall_eq] at hb
    simp only [hb]
  case elS sz x i =>
    simp only [AO.xs, List.mem_cons, List.not_mem_nil, or_false, forall_eq_or_imp, forall_eq] at hv
    simp only [foot] at hs
    have ha := aliveV_agree hs
    simp only [astep]
    rw [hv.1, hv.2]
    revert ha
    cases st.val x <;> intro ha <;> try rfl
    all_goals cases st.val i <;> try rfl
    all_goals simp only [ha]
  case append sz bytes x y =>
    simp only [AO.xs, List.mem_cons, List.not_mem_nil, or_false, forall_eq_or_imp, forall_eq] at hv
    simp only [foot, List.mem_cons, forall_eq_or_imp] at hs
    have ha := aliveV_agree (v := st.val y) fun σ h => hs.2 σ (List.mem_append_right _ h)
    have hx := fun σ h => hs.2 σ (List.mem_append_left _ h)
    simp only [astep]
    rw [hv.1, hv.2, hs.1, ha]
    revert hx
    cases st.val x <;> intro hx <;> try rfl
    · rename_i σ sz xs
      cases σ with
      | none => rfl
      | some σ =>
        simp only [V.stamp1, List.mem_cons, List.not_mem_nil, or_false, forall_eq] at hx
        simp only [hx]
    · rename_i σ tt sz xs
      cases tt with
      | none => rfl
      | some tt =>
        simp only [V.stamp1, List.mem_cons, List.not_mem_nil, or_false, forall_eq] at hx
        simp only [hx]
  case appStr e x y =>
    simp only [AO.xs, List.mem_cons, List.not_mem_nil, or_false, forall_eq_or_imp, forall_eq] at hv
    simp only [foot, List.mem_cons, forall_eq_or_imp] at hs
    have hx := hs.2
    simp only [astep]
    rw [hv.1, hv.2, hs.1]
    revert hx
    cases st.val x <;> intro hx <;> try rfl
    rename_i e' σ l
    simp only [V.stamp1, List.mem_cons, List.not_mem_nil, or_false, forall_eq] at hx
    simp only [hx]
  all_goals try simp only [AO.xs, List.mem_cons, List.not_mem_nil, or_false, forall_eq_or_imp, forall_eq] at hv
  all_goals try simp only [foot, List.mem_cons, List.not_mem_nil, or_false, forall_eq] at hb
  all_goals try simp only [foot, List.mem_cons, List.not_mem_nil, or_false, forall_eq] at hs
  all_goals try simp only [aliveV_agree hs]
  all_goals simp only [astep, hv, hb, hs]
  all_goals try rw [aliveV_agree hs]

/-- A step, the variables and the stamps it looks at. -/
inductive AStepF (P : Program) (st : St) (o : AOp) : Delta → List Nat → List Nat → Prop
  | skip (h : o.on st = some false) : AStepF P st o { val := .tup [] } [] []
  | op {p : Prop} {δ : Delta} (h : o.on st = some true) (hδ : astep st o.dst.num o.op = some (p, δ)) (hp : p) : AStepF P st o δ (foot st o.dst.num o.op).1 (foot st o.dst.num o.op).2
  | call {f : Nat} {xs : List AX} {δ : Delta} {rb rs : List Nat} (h : o.on st = some true) (ho : o.op = .call f xs) (hc : CallTo P f (xs.map st.val) st o.dst.num δ rb rs) : AStepF P st o δ rb rs
  | callv {F : AX} {f : Nat} {caps : List V} {xs : List AX} {δ : Delta} {rb rs : List Nat} (h : o.on st = some true) (ho : o.op = .callv F xs) (hF : st.val F = .fn f caps) (hn : Named P f)
      (hc : CallTo P f (xs.map st.val ++ caps) st o.dst.num δ rb rs) : AStepF P st o δ rb rs
  | eld {m i j b l s : Nat} {y x : AX} {σ sz : Nat} {xs cs0 : List V} (h : o.on st = some true) (ho : o.op = .store m y x) (hY : st.val y = .elp (.sl (some σ) sz xs) i j) (hs : lookS st.stat σ = some (.own xs.length sz)) (hi : i < xs.length) (hj : j + m ≤ sz) (h0 : 0 < m)
      (hel : (st.val x).okEl = true) (hcl : (st.val x).cells.length = m) (hσ : (st.val x).stamps = []) (hb : lookB st.box b = some cs0) (hl : cs0[l]? = some (.sl (some σ) sz xs)) (hs2 : lookS st.stat s = none) :
      AStepF P st o { val := .undef, nb := [(b, cs0.set l (.sl (some s) sz (setEl i j (st.val x).er.cells xs)))], ns := [(σ, some .dead), (s, some (.own xs.length sz))] } [b] [σ, s]

theorem AStepF.base {P : Program} {st : St} {o : AOp} {δ : Delta} {rb rs : List Nat} (h : AStepF P st o δ rb rs) : AStep P st o δ := by
  cases h with
  | skip h => exact .skip h
  | op h hδ hp => exact .op h hδ hp
  | call h ho hc => exact .call h ho hc
  | callv h ho hF hn hc => exact .callv h ho hF hn hc
  | eld h ho hY hs hi hj h0 hel hcl hσ hb hl hs2 => exact .eld h ho hY hs hi hj h0 hel hcl hσ hb hl hs2

theorem on_local {st st' : St} {o : AOp} (h : ∀ x ∈ o.looks, st'.val x = st.val x) : o.on st' = o.on st := by
  unfold AOp.on
  unfold AOp.looks at h
  cases hg : o.guard with
  | none => rfl
  | some g =>
    obtain ⟨x, want⟩ := g
    rw [hg] at h
    simp only
    rw [h x (by simp)]

theorem freshAll_agree {d : Nat} {S S' : Stats} : ∀ {l : Stats}, (∀ σ ∈ (rsS d l).map (·.1), lookS S' σ = lookS S σ) → freshAll d S l → freshAll d S' l
  | [], _, _ => trivial
  | (k, x) :: r, h, ⟨h1, h2, h3⟩ => ⟨h1, by rw [h (16 * d + k) (by simp [rsS]), h2], freshAll_agree (fun σ hs => h σ (by simp only [rsS, List.map_cons]; exact List.mem_cons_of_mem _ hs)) h3⟩

theorem lent_agree {S S' : Stats} {E : Option (List Nat)} {σ : Nat} (h : lookS S' σ = lookS S σ) (hl : lent S E σ) : lent S' E σ := by unfold lent at hl ⊢; rw [h]; exact hl

theorem relC_agree {M : Mp} {S S' : Stats} {E : Option (List Nat)} {B : Bm} {x y : V} (h : ∀ σ ∈ x.stamp1, lookS S' σ = lookS S σ) (hr : relC M S E B x y) : relC M S' E B x y := by
  by_cases hy : y = .undef
  · subst hy; cases x <;> simp [relC]
  cases x <;> cases y <;> simp only [relC] at hr ⊢ <;> first | exact hr.elim | exact absurd rfl hy | exact hr | skip
  case sl.sl σ sz xs τ sz' ys =>
    cases σ with
    | none => cases τ <;> exact hr
    | some σ =>
      cases τ with
      | none =>
        simp only [relC] at hr ⊢
        exact ⟨hr.1, hr.2.1, lent_agree (h σ (by simp [V.stamp1])) hr.2.2.1, hr.2.2.2⟩
      | some k =>
        simp only [relC, fullM] at hr ⊢
        rw [h σ (by simp [V.stamp1])]
        exact hr
  case nils.sl τ sz ys => cases τ <;> exact hr
  case bb.bb e σ l e' k l' =>
    simp only [fullM] at hr ⊢
    rw [h σ (by simp [V.stamp1])]
    exact hr
  case vw.sl σ tt sz xs τ sz' ys =>
    cases τ with
    | none =>
      simp only [relC] at hr ⊢
      exact ⟨hr.1, hr.2.1, lent_agree (h σ (by simp [V.stamp1])) hr.2.2.1, hr.2.2.2⟩
    | some k =>
      cases tt with
      | none => exact hr
      | some tt =>
        simp only [relC, cutM] at hr ⊢
        rw [h σ (by simp [V.stamp1])]
        exact hr

theorem relCs_agree {M : Mp} {S S' : Stats} {E : Option (List Nat)} {B : Bm} : ∀ {xs ys : List V}, (∀ σ ∈ xs.flatMap V.stamp1, lookS S' σ = lookS S σ) → relCs M S E B xs ys → relCs M S' E B xs ys
  | [], [], _, _ => trivial
  | x :: r, y :: s, h, ⟨h1, h2⟩ => ⟨relC_agree (fun σ q => h σ (by rw [List.flatMap_cons]; exact List.mem_append_left _ q)) h1, relCs_agree (fun σ q => h σ (by rw [List.flatMap_cons]; exact List.mem_append_right _ q)) h2⟩
  | [], _ :: _, _, h => h.elim
  | _ :: _, [], _, h => h.elim

theorem relA_agree {M : Mp} {S S' : Stats} {E : Option (List Nat)} {B : Bm} {x y : V} (h : ∀ σ ∈ x.stamps, lookS S' σ = lookS S σ) (hr : relA M S E B x y) : relA M S' E B x y := by
  cases x
  case agg cs =>
    cases y
    case agg ds => exact relCs_agree h hr
    case undef => simp [relA, relC]
    case sl σ sz xs => cases σ <;> exact hr
    all_goals exact hr
  all_goals
    exact relC_agree (M := M) (S := S) (E := E) (B := B) (y := y) (by simpa [V.stamps, V.cells] using h) hr

theorem relAs_agree {M : Mp} {S S' : Stats} {E : Option (List Nat)} {B : Bm} : ∀ {xs ys : List V}, (∀ σ ∈ xs.flatMap V.stamps, lookS S' σ = lookS S σ) → relAs M S E B xs ys → relAs M S' E B xs ys
  | [], [], _, _ => trivial
  | x :: r, y :: s, h, ⟨h1, h2⟩ => ⟨relA_agree (fun σ q => h σ (by rw [List.flatMap_cons]; exact List.mem_append_left _ q)) h1, relAs_agree (fun σ q => h σ (by rw [List.flatMap_cons]; exact List.mem_append_right _ q)) h2⟩
  | [], _ :: _, _, h => h.elim
  | _ :: _, [], _, h => h.elim

theorem okM_agree {S S' : Stats} : ∀ {M : Mp}, (∀ σ ∈ oldsM M, lookS S' σ = lookS S σ) → okM S M → okM S' M
  | [], _, _ => trivial
  | (k, some σ, t, s) :: r, h, ⟨h1, h2, h3, h4⟩ => ⟨h1, h2, by rw [h σ (by simp [oldsM])]; exact h3, okM_agree (fun τ q => h τ (by simp [oldsM, q])) h4⟩
  | (k, none, t, s) :: r, h, ⟨h1, h2, h4⟩ => ⟨h1, h2, okM_agree (fun τ q => h τ (by simp [oldsM, q])) h4⟩

theorem boxStamps_mem {bx : List (Nat × List V)} : ∀ {B : Bm} {m b : Nat} {cs : List V}, lookN B m = some b → lookB bx b = some cs → ∀ σ ∈ cs.flatMap V.stamp1, σ ∈ boxStamps bx B
  | [], m, b, cs, h, _, _, _ => by simp [lookN] at h
  | (n, o) :: r, m, b, cs, h, hb, σ, hσ => by
    simp only [lookN] at h
    simp only [boxStamps]
    by_cases e : m = n
    · rw [if_pos e] at h
      cases h
      rw [hb]
      exact List.mem_append_left _ hσ
    · rw [if_neg e] at h
      exact List.mem_append_right _ (boxStamps_mem h hb σ hσ)

theorem lookN_mem {B : Bm} {m b : Nat} : lookN B m = some b → b ∈ B.map (·.2) := by
  induction B with
  | nil => intro h; simp [lookN] at h
  | cons x r ih =>
    obtain ⟨n, o⟩ := x
    intro h
    simp only [lookN] at h
    by_cases e : m = n
    · rw [if_pos e] at h; cases h; simp
    · rw [if_neg e] at h; simp [ih h]

theorem okB_agree {M : Mp} {S S' : Stats} {E : Option (List Nat)} {bx bx' : List (Nat × List V)} {B : Bm} (hb : ∀ b ∈ B.map (·.2), lookB bx' b = lookB bx b) (h : ∀ σ ∈ boxStamps bx B, lookS S' σ = lookS S σ) :
    ∀ {B' : List (Nat × List V)}, okB M S E bx B B' → okB M S' E bx' B B'
  | [], _ => trivial
  | (b, cs) :: r, ⟨h1, h2⟩ => by
    refine ⟨?_, okB_agree hb h h2⟩
    cases e : lookN B b with
    | none => rw [e] at h1; exact h1.elim
    | some o =>
      rw [e] at h1
      simp only at h1 ⊢
      rw [hb o (lookN_mem e)]
      cases e2 : lookB bx o with
      | none => rw [e2] at h1; exact h1.elim
      | some ds =>
        rw [e2] at h1
        exact relCs_agree (fun σ q => h σ (boxStamps_mem e e2 σ q)) h1

theorem boxStamps_agree {bx bx' : List (Nat × List V)} : ∀ {B : Bm}, (∀ b ∈ B.map (·.2), lookB bx' b = lookB bx b) → boxStamps bx' B = boxStamps bx B
  | [], _ => rfl
  | (n, o) :: r, h => by
    simp only [boxStamps]
    rw [h o (by simp), boxStamps_agree fun b q => h b (by simp only [List.map_cons, List.mem_cons]; exact .inr q)]

theorem CallTo.local {P : Program} {f : Nat} {xs : List V} {st st' : St} {d : Nat} {δ : Delta} {rb rs : List Nat} (h : CallTo P f xs st d δ rb rs) (hb' : ∀ b ∈ rb, lookB st'.box b = lookB st.box b)
    (hs : ∀ σ ∈ rs, lookS st'.stat σ = lookS st.stat σ) : CallTo P f xs st' d δ rb rs := by
  cases h with
  | @gen as R bi bo M B D E nn hf hD hM hMs hN hNB hx hb hb2 hE hR hbo hr1 hr2 hnew hfr =>
    have hs1 : ∀ σ ∈ (rsS d (resStat R bo)).map (·.1), lookS st'.stat σ = lookS st.stat σ := fun σ q => hs σ (List.mem_append_left _ q)
    have hs2 : ∀ σ ∈ D, lookS st'.stat σ = lookS st.stat σ := fun σ q => hs σ (List.mem_append_right _ (List.mem_append_left _ q))
    have hS : ∀ σ, lookS st'.stat σ = lookS st.stat σ → lookS (toImm D ++ st'.stat) σ = lookS (toImm D ++ st.stat) σ := fun σ q => by rw [lookS_toImm, lookS_toImm, q]
    have hs3 : ∀ σ ∈ oldsM M, lookS (toImm D ++ st'.stat) σ = lookS (toImm D ++ st.stat) σ := fun σ q => hS σ (hs σ (List.mem_append_right _ (List.mem_append_right _ (List.mem_append_left _ q))))
    have hs4 : ∀ σ ∈ xs.flatMap V.stamps, lookS (toImm D ++ st'.stat) σ = lookS (toImm D ++ st.stat) σ := fun σ q =>
      hS σ (hs σ (List.mem_append_right _ (List.mem_append_right _ (List.mem_append_right _ (List.mem_append_left _ q)))))
    have hs5 : ∀ σ ∈ boxStamps st.box B, lookS (toImm D ++ st'.stat) σ = lookS (toImm D ++ st.stat) σ := fun σ q =>
      hS σ (hs σ (List.mem_append_right _ (List.mem_append_right _ (List.mem_append_right _ (List.mem_append_right _ q)))))
    have hb1 : ∀ b ∈ B.map (·.2), lookB st'.box b = lookB st.box b := fun b q => hb' b (List.mem_append_left _ q)
    have := CallTo.gen (P := P) (f := f) (xs := xs) (st := st') (d := d) hf (by rw [aliveAll_agree hs2]; exact hD) (okM_agree hs3 hM) hMs hN hNB (relAs_agree hs4 hx) (okB_agree hb1 hs5 hb) hb2 hE hR hbo hr1 hr2
      (fun q => by
        rw [hb' d (List.mem_append_right _ ?_)]
        · exact hnew q
        · cases nn with
          | none => exact absurd rfl q
          | some k => simp [newB]) (freshAll_agree hs1 hfr)
    rw [boxStamps_agree hb1] at this
    exact this

theorem AStepF.local {P : Program} {st st' : St} {o : AOp} {δ : Delta} {rb rs : List Nat} (h : AStepF P st o δ rb rs) (ha : Agree st st' o.looks rb rs) : AStepF P st' o δ rb rs := by
  have hon := on_local ha.v
  have hxs : ∀ x ∈ o.op.xs, st'.val x = st.val x := fun x hx => ha.v x (List.mem_append_left _ hx)
  cases h with
  | skip h => exact .skip (by rw [hon, h])
  | op h hδ hp =>
    have := AStepF.op (P := P) (st := st') (o := o) (by rw [hon, h]) (by rw [astep_local ⟨hxs, ha.b, ha.s⟩]; exact hδ) hp
    rw [foot_local hxs] at this
    exact this
  | @call f xs _ _ _ h ho hc =>
    have hm : xs.map st'.val = xs.map st.val := List.map_congr_left fun x hx => hxs x (by rw [ho]; exact hx)
    refine AStepF.call (P := P) (st := st') (o := o) (by rw [hon, h]) ho ?_
    rw [hm]
    exact hc.local ha.b ha.s
  | @callv F f caps xs _ _ _ h ho hF hn hc =>
    have hm : xs.map st'.val = xs.map st.val := List.map_congr_left fun x hx => hxs x (by rw [ho]; exact List.mem_cons_of_mem _ hx)
    refine AStepF.callv (P := P) (st := st') (o := o) (by rw [hon, h]) ho (by rw [hxs F (by rw [ho]; exact List.mem_cons_self)]; exact hF) hn ?_
    rw [hm]
    exact hc.local ha.b ha.s
  | @eld m i j b l s y x σ sz xs cs0 h ho hY hs hi hj h0 hel hcl hσ hb hl hs2 =>
    have ey : st'.val y = st.val y := hxs y (by rw [ho]; simp [AO.xs])
    have ex : st'.val x = st.val x := hxs x (by rw [ho]; simp [AO.xs])
    have := AStepF.eld (P := P) (st := st') (o := o) (s := s) (by rw [hon, h]) ho (by rw [ey]; exact hY) (by rw [ha.s σ (by simp)]; exact hs) hi hj h0 (by rw [ex]; exact hel) (by rw [ex]; exact hcl) (by rw [ex]; exact hσ) (by rw [ha.b b (by simp)]; exact hb) hl (by rw [ha.s s (by simp)]; exact hs2)
    rw [ex] at this
    exact this

end Go.Proofs.Ytpiafiapjmldgaa
