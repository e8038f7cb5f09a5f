/-
  Running abstract code, with what is left to do as data: the rules by which a proof goes on.
-/
import Derived.Test.YtnhhcfbigjpfeaaDoorQ15
namespace Go.Proofs.YtnhhcfbigjpfeaaDoor
set_option linter.all false

section

/-- What a call asks of the state of its caller's. -/
def CallOk (st : St) (d : Nat) (xs as : List V) (R : V) (bi bo : List (List V)) (M : Mp) (B : Bm) (D E : List Nat) (nn : Option Nat) : Prop :=
  aliveAll st.stat D ∧ okM (toImm D ++ st.stat) M ∧ statM M = argStat as bi ∧ okN (withNew B d nn) ∧ okN B ∧ relAs M (toImm D ++ st.stat) (some E) B xs as ∧ okB M (toImm D ++ st.stat) (some E) st.box B (boxesOf bi) ∧ hasB (boxesOf bi) B ∧
  (E = [] ∨ noref R bo) ∧ R.okR = true ∧ bo.all (fun b => b.all V.okR1) = true ∧ hasB (boxesOf bo) (withNew B d nn) ∧ hasN (withNew B d nn) (boxesOf bo) ∧ (nn ≠ none → lookB st.box d = none) ∧ freshAll d st.stat (resStat R bo)

theorem CallOk.callTo {P : Program} {f : Nat} {st : St} {d : Nat} {xs as : List V} {R : V} {bi bo : List (List V)} {M : Mp} {B : Bm} {D E : List Nat} {nn : Option Nat} (h : CallOk st d xs as R bi bo M B D E nn) (hf : Fn P f as bi R bo) :
    CallTo P f xs st d { val := R.ren (withNew B d nn) d, nb := renBoxes (withNew B d nn) d (boxesOf bo), ns := rsS d (resStat R bo) ++ (deadM M ++ toImm D) } (B.map (·.2) ++ newB d nn)
      ((rsS d (resStat R bo)).map (·.1) ++ (D ++ (oldsM M ++ (xs.flatMap V.stamps ++ boxStamps st.box B)))) := by
  obtain ⟨h1, h2, h3, h4, h5, h6, h7, h8, h9, h10, h11, h12, h13, h14, h15⟩ := h
  exact .gen hf h1 h2 (fun k => by rw [h3]) h4 h5 h6 h7 h8 h9 h10 h11 h12 h13 h14 h15

inductive It where
  | code (c : AC)
  | inBlock (id : Nat)
  | back (B : St → Prop)
  | ops (l : List AOp)
  | dops (l : List AOp) (un : List (List Nat)) (i : Nat) (log : List (Nat × Rec))

/-- What is left to do, entered by an exit. -/
def go (P : Program) : List It → (AE → St → Prop) → AE → St → Prop
  | [], Q, e, st => Q e st
  | .code c :: k, Q, e, st => match e with
    | .normal => awp P c st (fun e st' => go P k Q e st')
    | e => go P k Q e st
  | .inBlock id :: k, Q, e, st => match e with
    | .exit i => if i = id then go P k Q .normal st else go P k Q (.exit i) st
    | e => go P k Q e st
  | .back B :: k, Q, e, st => match e with
    | .normal => B st
    | e => go P k Q e st
  | .ops l :: k, Q, e, st => match e with
    | .normal => aops P l st (fun st' => go P k Q .normal { st' with loc := [] })
    | e => go P k Q e st
  | .dops l un i log :: k, Q, e, st => match e with
    | .normal => adr P l un i log st (fun st' => go P k Q .normal st')
    | e => go P k Q e st

/-- The operations that are left of a statement. -/
def goOps (P : Program) (ops : List AOp) (k : List It) (Q : AE → St → Prop) (st : St) : Prop :=
  go P (.ops ops :: k) Q .normal st

def goOp (P : Program) (o : AOp) (r : List AOp) (k : List It) (Q : AE → St → Prop) (st : St) : Prop :=
  arun P o st (fun st' => goOps P r k Q st')

/-- A call that is to be answered by a contract. -/
def goCall (P : Program) (f : Nat) (xs : List V) (dst : AD) (r : List AOp) (k : List It) (Q : AE → St → Prop) (st : St) : Prop :=
  (∃ δ rb rs, CallTo P f xs st dst.num δ rb rs ∧ go P (.ops r :: k) Q .normal (δ.apply st dst)) ∨ ∃ R st', CallEff P f xs st R st' ∧ go P (.ops r :: k) Q .normal (st'.put dst R)

/-- A call through a value. -/
def goCallV (P : Program) (v : V) (xs : List V) (dst : AD) (r : List AOp) (k : List It) (Q : AE → St → Prop) (st : St) : Prop :=
  match v with
  | .fn f caps => Named P f ∧ goCall P f (xs ++ caps) dst r k Q st
  | _ => False

section
variable {P : Program} {k : List It} {Q : AE → St → Prop} {st : St}

theorem goCallV_fn {f : Nat} {caps xs : List V} {d : AD} {r : List AOp} : goCallV P (.fn f caps) xs d r k Q st = (Named P f ∧ goCall P f (xs ++ caps) d r k Q st) := (rfl)
theorem go_nil {e : AE} : go P [] Q e st = Q e st := (rfl)
theorem go_skip : go P (.code .skip :: k) Q .normal st = go P k Q .normal st := (rfl)
theorem go_seq {a b : AC} : go P (.code (.seq a b) :: k) Q .normal st = go P (.code a :: .code b :: k) Q .normal st := by
  simp only [go, awp]
  congr 1
theorem go_region {ops : List AOp} : go P (.code (.region ops) :: k) Q .normal st = go P (.ops ops :: k) Q .normal st := (rfl)
theorem go_block {id : Nat} {c : AC} : go P (.code (.block id c) :: k) Q .normal st = go P (.code c :: .inBlock id :: k) Q .normal st := by
  show awp P c st (fun e st' => match e with
    | .exit i => if i = id then go P k Q .normal st' else go P k Q (.exit i) st'
    | e => go P k Q e st') = awp P c st (fun e st' => go P (.inBlock id :: k) Q e st')
  refine congrArg _ ?_
  funext e st'
  cases e <;> rfl
theorem go_exit {i : Nat} : go P (.code (.exit i) :: k) Q .normal st = go P k Q (.exit i) st := (rfl)
theorem go_ret : go P (.code .ret :: k) Q .normal st = go P k Q .ret st := (rfl)
theorem go_inBlock {id : Nat} : go P (.inBlock id :: k) Q .normal st = go P k Q .normal st := (rfl)
theorem go_inBlock_exit {id i : Nat} : go P (.inBlock id :: k) Q (.exit i) st = if i = id then go P k Q .normal st else go P k Q (.exit i) st := (rfl)
theorem go_inBlock_ret {id : Nat} : go P (.inBlock id :: k) Q .ret st = go P k Q .ret st := (rfl)
theorem go_code_exit {c : AC} {i : Nat} : go P (.code c :: k) Q (.exit i) st = go P k Q (.exit i) st := (rfl)
theorem go_code_ret {c : AC} : go P (.code c :: k) Q .ret st = go P k Q .ret st := (rfl)
theorem go_back {B : St → Prop} : go P (.back B :: k) Q .normal st = B st := (rfl)
theorem go_back_exit {B : St → Prop} {i : Nat} : go P (.back B :: k) Q (.exit i) st = go P k Q (.exit i) st := (rfl)
theorem go_back_ret {B : St → Prop} : go P (.back B :: k) Q .ret st = go P k Q .ret st := (rfl)
/-- A branch. -/
def goTest (P : Program) (v : V) (k₁ : List It) (st₁ : St) (k₂ : List It) (st₂ : St) (Q : AE → St → Prop) : Prop :=
  match v with
  | .bool b => if b = true then go P k₁ Q .normal st₁ else go P k₂ Q .normal st₂
  | _ => False

section
variable {k₁ k₂ : List It} {st₁ st₂ : St}
theorem goTest_true : goTest P (.bool true) k₁ st₁ k₂ st₂ Q = go P k₁ Q .normal st₁ := (rfl)
theorem goTest_false : goTest P (.bool false) k₁ st₁ k₂ st₂ Q = go P k₂ Q .normal st₂ := (rfl)
theorem goTest_of {b : Bool} (hx : b = true → go P k₁ Q .normal st₁) (hy : b = false → go P k₂ Q .normal st₂) : goTest P (.bool b) k₁ st₁ k₂ st₂ Q := by
  cases b
  · exact hy rfl
  · exact hx rfl
theorem goTest_dec {p : Prop} [Decidable p] (hx : p → go P k₁ Q .normal st₁) (hy : ¬p → go P k₂ Q .normal st₂) : goTest P (.bool (decide p)) k₁ st₁ k₂ st₂ Q :=
  goTest_of (fun h => hx (of_decide_eq_true h)) (fun h => hy (of_decide_eq_false h))
end

theorem go_cond {c : AX} {x y : AC} : go P (.code (.cond c x y) :: k) Q .normal st = goTest P (st.val c) (.code x :: k) st (.code y :: k) st Q := by
  show (match st.val c with
    | .bool b => if b = true then go P (.code x :: k) Q .normal st else go P (.code y :: k) Q .normal st
    | _ => False) = _
  unfold goTest
  rfl

theorem go_ops_nil : go P (.ops [] :: k) Q .normal st = go P k Q .normal { st with loc := [] } := (rfl)
theorem go_ops_exit {l : List AOp} {i : Nat} : go P (.ops l :: k) Q (.exit i) st = go P k Q (.exit i) st := (rfl)
theorem go_ops_cons {d : AD} {op : AO} {r : List AOp} : go P (.ops (⟨d, op, none⟩ :: r) :: k) Q .normal st = goOp P ⟨d, op, none⟩ r k Q st := (rfl)

/-- A guard: 'k₁' where the operation is carried out, 'k₂' where it is not. -/
def goGuard (P : Program) (v : V) (want : Bool) (k₁ : List It) (st₁ : St) (k₂ : List It) (st₂ : St) (Q : AE → St → Prop) : Prop :=
  match v with
  | .bool b => if b = want then go P k₁ Q .normal st₁ else go P k₂ Q .normal st₂
  | .tup [] => go P k₂ Q .normal st₂
  | _ => False

section
variable {k₁ k₂ : List It} {st₁ st₂ : St}
theorem goGuard_skip {want : Bool} : goGuard P (.tup []) want k₁ st₁ k₂ st₂ Q = go P k₂ Q .normal st₂ := (rfl)
theorem goGuard_T {b : Bool} : goGuard P (.bool b) true k₁ st₁ k₂ st₂ Q = goTest P (.bool b) k₁ st₁ k₂ st₂ Q := (rfl)
theorem goGuard_F {b : Bool} : goGuard P (.bool b) false k₁ st₁ k₂ st₂ Q = goTest P (.bool b) k₂ st₂ k₁ st₁ Q := by cases b <;> rfl
end

theorem go_ops_guard {d : AD} {op : AO} {x : AX} {want : Bool} {r : List AOp} : go P (.ops (⟨d, op, some (x, want)⟩ :: r) :: k) Q .normal st = goGuard P (st.val x) want (.ops (⟨d, op, none⟩ :: r) :: k) st (.ops r :: k) (st.put d (.tup [])) Q := (rfl)
theorem goOp_call {d : AD} {f : Nat} {xs : List AX} {g : Option (AX × Bool)} {r : List AOp} : goOp P ⟨d, .call f xs, g⟩ r k Q st = goCall P f (xs.map st.val) d r k Q st := (rfl)
theorem goOp_callv {d : AD} {F : AX} {xs : List AX} {g : Option (AX × Bool)} {r : List AOp} : goOp P ⟨d, .callv F xs, g⟩ r k Q st = goCallV P (st.val F) (xs.map st.val) d r k Q st := by
  unfold goOp arun goCallV
  simp only
  cases st.val F <;> rfl
theorem goOp_pick {d : AD} {c x y : AX} {g : Option (AX × Bool)} {r : List AOp} : goOp P ⟨d, .pick c x y, g⟩ r k Q st = goTest P (st.val c) (.ops r :: k) (st.put d (st.val x)) (.ops r :: k) (st.put d (st.val y)) Q := by
  unfold goOp arun astep goTest
  simp only
  cases st.val c <;> try rfl
  rename_i b
  cases b <;> simp [Delta.apply, goOps]

/-- What a step needs, and what follows; only what it needs is to be simplified first. -/
def goStep (P : Program) (x : Option (Prop × Delta)) (d : AD) (r : List AOp) (k : List It) (Q : AE → St → Prop) (st : St) : Prop :=
  match x with
  | some (p, δ) => p ∧ go P (.ops r :: k) Q .normal (δ.apply st d)
  | none => False
theorem goStep_some {p : Prop} {δ : Delta} {d : AD} {r : List AOp} : goStep P (some (p, δ)) d r k Q st = (p ∧ go P (.ops r :: k) Q .normal (δ.apply st d)) := (rfl)

theorem goOp_op {d : AD} {op : AO} {g : Option (AX × Bool)} {r : List AOp} (h : ∀ f xs, op ≠ .call f xs) (h2 : ∀ f xs, op ≠ .callv f xs) (h3 : ∀ n y x, op ≠ .store n y x) : goOp P ⟨d, op, g⟩ r k Q st = goStep P (astep st d.num op) d r k Q st := by
  unfold goOp arun
  split
  · exact absurd ‹_› (h _ _)
  · exact absurd ‹_› (h2 _ _)
  · exact absurd ‹_› (h3 _ _ _)
  · rfl

/-- A store: into a variable, or into an element of a slice. -/
def goStore (P : Program) (m : Nat) (v x : V) (d : AD) (r : List AOp) (k : List It) (Q : AE → St → Prop) (st : St) : Prop :=
  match v with
  | .ptr b off => match lookB st.box b with
    | some cs => (x.okB = true ∧ x.cells.length = m ∧ off + m ≤ cs.length) ∧ go P (.ops r :: k) Q .normal (Delta.apply { val := .undef, nb := [(b, cs.take off ++ x.cells ++ cs.drop (off + m))], cls := .e } st d)
    | none => False
  | .elp (.sl (some σ) sz xs) i j => (lookS st.stat σ = some (.own xs.length sz) ∧ i < xs.length ∧ j + m ≤ sz ∧ 0 < m ∧ x.okEl = true ∧ x.cells.length = m ∧ σ ∉ x.stamps ∧ aliveAll st.stat x.stamps) ∧ go P (.ops r :: k) Q .normal ((st.wr σ xs.length i j x.er.cells x.stamps).put d .undef)
  | _ => False

theorem goOp_store {d : AD} {m : Nat} {y x : AX} {g : Option (AX × Bool)} {r : List AOp} : goOp P ⟨d, .store m y x, g⟩ r k Q st = goStore P m (st.val y) (st.val x) d r k Q st := by
  unfold goOp arun goStore
  simp only [astep]
  cases st.val y <;> try rfl
  · rename_i b off
    simp only
    cases lookB st.box b <;> rfl
  · rename_i s i j
    cases s <;> try rfl
    rename_i σ sz xs
    cases σ <;> rfl

theorem goStore_ptr {m b off : Nat} {x : V} {d : AD} {r : List AOp} : goStore P m (.ptr b off) x d r k Q st = match lookB st.box b with
    | some cs => (x.okB = true ∧ x.cells.length = m ∧ off + m ≤ cs.length) ∧ go P (.ops r :: k) Q .normal (Delta.apply { val := .undef, nb := [(b, cs.take off ++ x.cells ++ cs.drop (off + m))], cls := .e } st d)
    | none => False := (rfl)

theorem goStore_elp {m i j σ sz : Nat} {xs : List V} {x : V} {d : AD} {r : List AOp} : goStore P m (.elp (.sl (some σ) sz xs) i j) x d r k Q st =
    ((lookS st.stat σ = some (.own xs.length sz) ∧ i < xs.length ∧ j + m ≤ sz ∧ 0 < m ∧ x.okEl = true ∧ x.cells.length = m ∧ σ ∉ x.stamps ∧ aliveAll st.stat x.stamps) ∧ go P (.ops r :: k) Q .normal ((st.wr σ xs.length i j x.er.cells x.stamps).put d .undef)) := (rfl)

/-! ## Statements of more than one order -/

def goDOp (P : Program) (o : AOp) (u : List Nat) (r : List AOp) (un : List (List Nat)) (i : Nat) (log : List (Nat × Rec)) (k : List It) (Q : AE → St → Prop) (st : St) : Prop :=
  adrun P o st (fun δ rc => indepAll u log rc ∧ go P (.dops r un (i + 1) ((i, rc) :: log) :: k) Q .normal (δ.apply st o.dst))

def goDStep (P : Program) (op : AO) (x : Option (Prop × Delta)) (ft : List Nat × List Nat) (d : AD) (u : List Nat) (r : List AOp) (un : List (List Nat)) (i : Nat) (log : List (Nat × Rec)) (k : List It) (Q : AE → St → Prop) (st : St) : Prop :=
  match x with
  | some (p, δ) => p ∧ indepAll u log ⟨ft.1, ft.2, δ.nb.map (·.1), δ.ns.map (·.1)⟩ ∧ go P (.dops r un (i + 1) ((i, ⟨ft.1, ft.2, δ.nb.map (·.1), δ.ns.map (·.1)⟩) :: log) :: k) Q .normal (δ.apply st d)
  | none => eldAt st op (fun δ rc => indepAll u log rc ∧ go P (.dops r un (i + 1) ((i, rc) :: log) :: k) Q .normal (δ.apply st d))

def goDCall (P : Program) (f : Nat) (xs : List V) (d : AD) (u : List Nat) (r : List AOp) (un : List (List Nat)) (i : Nat) (log : List (Nat × Rec)) (k : List It) (Q : AE → St → Prop) (st : St) : Prop :=
  ∃ δ rb rs, CallTo P f xs st d.num δ rb rs ∧ indepAll u log ⟨rb, rs, δ.nb.map (·.1), δ.ns.map (·.1)⟩ ∧ go P (.dops r un (i + 1) ((i, ⟨rb, rs, δ.nb.map (·.1), δ.ns.map (·.1)⟩) :: log) :: k) Q .normal (δ.apply st d)

section
variable {un : List (List Nat)} {u : List Nat} {i : Nat} {log : List (Nat × Rec)} {r : List AOp} {d : AD} {op : AO} {g : Option (AX × Bool)}
theorem go_drawn {ops tl : List AOp} : go P (.code (.drawn ops un tl) :: k) Q .normal st = go P (.dops ops un 0 [] :: .ops tl :: k) Q .normal st := (rfl)
theorem go_dops_nil : go P (.dops [] un i log :: k) Q .normal st = go P k Q .normal st := (rfl)
theorem go_dops_exit {l : List AOp} {j : Nat} : go P (.dops l un i log :: k) Q (.exit j) st = go P k Q (.exit j) st := (rfl)
theorem go_dops_cons : go P (.dops (⟨d, op, none⟩ :: r) (u :: un) i log :: k) Q .normal st = goDOp P ⟨d, op, none⟩ u r un i log k Q st := (rfl)
theorem go_dops_guard {x : AX} {want : Bool} : go P (.dops (⟨d, op, some (x, want)⟩ :: r) (u :: un) i log :: k) Q .normal st =
    goGuard P (st.val x) want (.dops (⟨d, op, none⟩ :: r) (u :: un) i log :: k) st (.dops r un (i + 1) ((i, {}) :: log) :: k) (st.put d (.tup [])) Q := (rfl)
theorem goDOp_call {f : Nat} {xs : List AX} : goDOp P ⟨d, .call f xs, g⟩ u r un i log k Q st = goDCall P f (xs.map st.val) d u r un i log k Q st := (rfl)
theorem goDOp_pick {c x y : AX} : goDOp P ⟨d, .pick c x y, g⟩ u r un i log k Q st =
    goTest P (st.val c) (.dops r un (i + 1) ((i, {}) :: log) :: k) (st.put d (st.val x)) (.dops r un (i + 1) ((i, {}) :: log) :: k) (st.put d (st.val y)) Q := by
  unfold goDOp adrun astep goTest
  simp only
  cases st.val c
  case bool b => cases b <;> simp [Delta.apply, foot, indepAll_empty]
  all_goals simp [eldAt]
theorem goDOp_op (h : ∀ f xs, op ≠ .call f xs) (h2 : ∀ f xs, op ≠ .callv f xs) : goDOp P ⟨d, op, g⟩ u r un i log k Q st = goDStep P op (astep st d.num op) (foot st d.num op) d u r un i log k Q st := by
  unfold goDOp adrun
  split
  · exact absurd ‹_› (h _ _)
  · exact absurd ‹_› (h2 _ _)
  · rfl
theorem goDStep_some {p : Prop} {δ : Delta} {ft : List Nat × List Nat} : goDStep P op (some (p, δ)) ft d u r un i log k Q st =
    (p ∧ indepAll u log ⟨ft.1, ft.2, δ.nb.map (·.1), δ.ns.map (·.1)⟩ ∧ go P (.dops r un (i + 1) ((i, ⟨ft.1, ft.2, δ.nb.map (·.1), δ.ns.map (·.1)⟩) :: log) :: k) Q .normal (δ.apply st d)) := (rfl)

/-- A call in a statement of more than one order. -/
theorem goDCall_gen {f : Nat} {xs as : List V} {R : V} {bi bo : List (List V)} (M : Mp) (B : Bm) (D E : List Nat) (nn : Option Nat) (hf : Fn P f as bi R bo) (hc : CallOk st d.num xs as R bi bo M B D E nn)
    (hi : indepAll u log ⟨B.map (·.2) ++ newB d.num nn, (rsS d.num (resStat R bo)).map (·.1) ++ (D ++ (oldsM M ++ (xs.flatMap V.stamps ++ boxStamps st.box B))), (renBoxes (withNew B d.num nn) d.num (boxesOf bo)).map (·.1), (rsS d.num (resStat R bo) ++ (deadM M ++ toImm D)).map (·.1)⟩)
    (h : go P (.dops r un (i + 1) ((i, ⟨B.map (·.2) ++ newB d.num nn, (rsS d.num (resStat R bo)).map (·.1) ++ (D ++ (oldsM M ++ (xs.flatMap V.stamps ++ boxStamps st.box B))), (renBoxes (withNew B d.num nn) d.num (boxesOf bo)).map (·.1), (rsS d.num (resStat R bo) ++ (deadM M ++ toImm D)).map (·.1)⟩) :: log) :: k) Q .normal (Delta.apply { val := R.ren (withNew B d.num nn) d.num, nb := renBoxes (withNew B d.num nn) d.num (boxesOf bo), ns := rsS d.num (resStat R bo) ++ (deadM M ++ toImm D) } st d)) : goDCall P f xs d u r un i log k Q st :=
  ⟨_, _, _, hc.callTo hf, hi, h⟩

theorem goDCall_eq {f : Nat} {xs : List V} {R : V} (hf : Fn P f xs [] R []) (hc : CallOk st d.num xs xs R [] [] [] [] [] [] none)
    (hi : indepAll u log ⟨[], (rsS d.num R.stat).map (·.1) ++ xs.flatMap V.stamps, [], (rsS d.num R.stat).map (·.1)⟩)
    (h : go P (.dops r un (i + 1) ((i, ⟨[], (rsS d.num R.stat).map (·.1) ++ xs.flatMap V.stamps, [], (rsS d.num R.stat).map (·.1)⟩) :: log) :: k) Q .normal (Delta.apply { val := R.ren [] d.num, ns := rsS d.num R.stat } st d)) : goDCall P f xs d u r un i log k Q st := by
  refine goDCall_gen [] [] [] [] none hf hc ?_ ?_
  · simpa [resStat, boxesStat, renBoxes, boxesOf, boxesFrom, withNew, deadM, toImm, newB, oldsM, boxStamps] using hi
  · simpa [resStat, boxesStat, renBoxes, boxesOf, boxesFrom, withNew, deadM, toImm, newB, oldsM, boxStamps] using h

end

/-- The end of a function. -/
def endQ (rs : List ARes) (R : V) (bo : List (List V)) : AE → St → Prop
  | .exit _, _ => False
  | _, st => Ends rs R bo st

theorem endQ_ret {rs : List ARes} {R : V} {bo : List (List V)} : endQ rs R bo .ret st = Ends rs R bo st := (rfl)
theorem endQ_normal {rs : List ARes} {R : V} {bo : List (List V)} : endQ rs R bo .normal st = Ends rs R bo st := (rfl)

theorem Fn.of_go {f : FuncId} {af : AF} (hl : Linked P f af) {args : List V} {bi : List (List V)} {R : V} {bo : List (List V)} (hargs : ((List.range args.length).all fun i => af.glob.contains i) = true)
    (h : go P [.code af.body] (endQ af.results R bo) .normal (St.start args bi)) : Fn P f args bi R bo := by
  refine Fn.of_awp hl hargs ?_
  have h2 : awp P af.body (St.start args bi) (fun e st => go P [] (endQ af.results R bo) e st) := h
  have : (fun (e : AE) (st : St) => go P [] (endQ af.results R bo) e st) = (fun e st => match e with | .exit _ => False | _ => Ends af.results R bo st) := by
    funext e st; cases e <;> rfl
  rw [this] at h2
  exact h2

/-- A call. -/
theorem goCall_gen {f : Nat} {xs as : List V} {R : V} {bi bo : List (List V)} {d : AD} {r : List AOp} (M : Mp) (B : Bm) (D E : List Nat) (nn : Option Nat) (hf : Fn P f as bi R bo) (hc : CallOk st d.num xs as R bi bo M B D E nn)
    (h : go P (.ops r :: k) Q .normal (Delta.apply { val := R.ren (withNew B d.num nn) d.num, nb := renBoxes (withNew B d.num nn) d.num (boxesOf bo), ns := rsS d.num (resStat R bo) ++ (deadM M ++ toImm D) } st d)) : goCall P f xs d r k Q st :=
  .inl ⟨_, _, _, hc.callTo hf, h⟩

theorem goCall_eq {f : Nat} {xs : List V} {R : V} {d : AD} {r : List AOp} (hf : Fn P f xs [] R []) (hc : CallOk st d.num xs xs R [] [] [] [] [] [] none)
    (h : go P (.ops r :: k) Q .normal (Delta.apply { val := R.ren [] d.num, ns := rsS d.num R.stat } st d)) : goCall P f xs d r k Q st :=
  goCall_gen [] [] [] [] none hf hc (by simpa [resStat, boxesStat, renBoxes, boxesOf, boxesFrom, withNew, deadM, toImm] using h)

theorem Weak.of {st st' : St} (M : Mp) (B : Bm) (h : okM st.stat M ∧ okN B ∧ okE M st.stat B st.env st'.env ∧ okB M st.stat none st.box B st'.box ∧ hasB st'.box B ∧ keepB B st.box ∧ st'.stat = statM M ∧ st'.loc = []) : Weak st st' :=
  Weak.mk M B h.1 h.2.1 h.2.2.1 h.2.2.2.1 h.2.2.2.2.1 h.2.2.2.2.2.1 h.2.2.2.2.2.2.1 h.2.2.2.2.2.2.2

/-- The end of a function that says what it hands back only at its end. -/
def exQ (rs : List ARes) (Post : V → List (List V) → Prop) : AE → St → Prop
  | .exit _, _ => False
  | _, st => ∃ R bo, Post R bo ∧ Ends rs R bo st

theorem exQ_ret {rs : List ARes} {Post : V → List (List V) → Prop} : exQ rs Post .ret st = ∃ R bo, Post R bo ∧ Ends rs R bo st := (rfl)
theorem exQ_normal {rs : List ARes} {Post : V → List (List V) → Prop} : exQ rs Post .normal st = ∃ R bo, Post R bo ∧ Ends rs R bo st := (rfl)

theorem Fx.of_go {f : FuncId} {af : AF} (hl : Linked P f af) {args : List V} {bi : List (List V)} {Post : V → List (List V) → Prop} (hargs : ((List.range args.length).all fun i => af.glob.contains i) = true)
    (h : go P [.code af.body] (exQ af.results Post) .normal (St.start args bi)) : ∃ R bo, Post R bo ∧ Fn P f args bi R bo := by
  have h2 : awp P af.body (St.start args bi) (fun e st => ∃ x : {x : V × List (List V) // Post x.1 x.2}, endQ af.results x.1.1 x.1.2 e st) := by
    refine awp_mono (fun e st q => ?_) h
    cases e with
    | exit i => exact q.elim
    | normal => obtain ⟨R, bo, h1, h2⟩ := q; exact ⟨⟨(R, bo), h1⟩, h2⟩
    | ret => obtain ⟨R, bo, h1, h2⟩ := q; exact ⟨⟨(R, bo), h1⟩, h2⟩
  obtain ⟨⟨⟨R, bo⟩, hp⟩, hx⟩ := awp_ex h2
  refine ⟨R, bo, hp, Fn.of_awp hl hargs (awp_mono (fun e st q => ?_) hx)⟩
  cases e <;> exact q

/-- The end of a round of a loop. -/
structure Again {α : Type} (mk : α → St) (Ok : α → Prop) (μ : α → Nat) (a : α) (st' : St) : Prop where
  of ::
  p : ∃ b, Ok b ∧ μ b < μ a ∧ Weak st' (mk b)

theorem Again.mk {α : Type} {mk : α → St} {Ok : α → Prop} {μ : α → Nat} {a : α} {st' : St} (b : α) (h : Ok b) (hlt : μ b < μ a) (hw : Weak st' (mk b)) : Again mk Ok μ a st' := ⟨⟨b, h, hlt, hw⟩⟩

/-- A loop with an invariant. -/
theorem go_loop {c : AC} {α : Type} (mk : α → St) (Ok : α → Prop) (μ : α → Nat) (a : α) (h0 : Ok a) (hw : Weak st (mk a))
    (round : ∀ a, Ok a → go P (.code c :: .back (Again mk Ok μ a) :: k) Q .normal (mk a)) : go P (.code (.loop c) :: k) Q .normal st := by
  refine ⟨fun n st => ∃ a, Ok a ∧ n = μ a ∧ st = mk a, ⟨μ a, mk a, hw, a, h0, rfl, rfl⟩, ?_⟩
  rintro n st' ⟨a, ha, rfl, rfl⟩
  refine awp_mono (fun e st' q => ?_) (round a ha)
  cases e with
  | normal =>
    obtain ⟨⟨b, hb, hlt, hw⟩⟩ := q
    exact ⟨μ b, mk b, hlt, hw, b, hb, rfl, rfl⟩
  | exit i => exact q
  | ret => exact q

end
end

end Go.Proofs.YtnhhcfbigjpfeaaDoor
