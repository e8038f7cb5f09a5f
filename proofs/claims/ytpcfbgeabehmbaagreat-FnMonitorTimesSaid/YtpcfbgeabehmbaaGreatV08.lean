/-
  A state that says less, with other names: at the head of a loop, where a function returns, and what a call is handed.
  What is known of the tables that lie in memory before a call: they lie in blocks that nobody may change.
  What a function does, said over abstract values alone; and a call of a function.
-/
import Derived.Test.YtpcfbgeabehmbaaGreatV07
import Derived.Lib.LaidTab
import Derived.Lib.ItoaNum
namespace Go.Proofs.YtpcfbgeabehmbaaGreat
set_option linter.all false

section

/-- Which stamps are kept, under which names: the new name, the old one (none: a nil slice), how long, how wide. -/
abbrev Mp := List (Nat × Option Nat × Nat × Nat)

def lookM (M : Mp) (k : Nat) : Option (Option Nat × Nat × Nat) :=
  match M with
  | [] => none
  | (j, x) :: r => if k = j then some x else lookM r k

/-- The new name of an old stamp. -/
def newM (M : Mp) (σ : Nat) : Option Nat :=
  match M with
  | [] => none
  | (j, o, _, _) :: r => if o = some σ then some j else newM r σ

def statM : Mp → Stats
  | [] => []
  | (k, _, t, s) :: r => (k, some (.own t s)) :: statM r

/-- New names differ, old names differ, and each stamp is as long and as wide as it is said. -/
def okM (S : Stats) : Mp → Prop
  | [] => True
  | (k, some σ, t, s) :: r => lookM r k = none ∧ newM r σ = none ∧ (match lookS S σ with
    | some (.own t0 s0) => s0 = s ∧ t ≤ t0
    | _ => False) ∧ okM S r
  | (k, none, t, _) :: r => lookM r k = none ∧ t = 0 ∧ okM S r

/-- Which variables are kept: the new number, the old one. -/
abbrev Bm := List (Nat × Nat)

def lookN (B : Bm) (b : Nat) : Option Nat :=
  match B with
  | [] => none
  | (n, o) :: r => if b = n then some o else lookN r b

def oldN (B : Bm) (b : Nat) : Option Nat :=
  match B with
  | [] => none
  | (n, o) :: r => if b = o then some n else oldN r b

def okN : Bm → Prop
  | [] => True
  | (n, o) :: r => lookN r n = none ∧ oldN r o = none ∧ okN r

theorem lookN_old : ∀ {B : Bm}, okN B → ∀ {n o : Nat}, lookN B n = some o → oldN B o = some n
  | [], _, n, o, h => by simp [lookN] at h
  | (n', o') :: r, ⟨h1, h2, h3⟩, n, o, h => by
    simp only [lookN] at h
    by_cases e : n = n'
    · rw [if_pos e] at h; cases h; simp [oldN, e]
    · rw [if_neg e] at h
      have q := lookN_old h3 h
      have : o ≠ o' := by rintro rfl; rw [h2] at q; cases q
      simp [oldN, this, q]

theorem oldN_look : ∀ {B : Bm}, okN B → ∀ {n o : Nat}, oldN B o = some n → lookN B n = some o
  | [], _, n, o, h => by simp [oldN] at h
  | (n', o') :: r, ⟨h1, h2, h3⟩, n, o, h => by
    simp only [oldN] at h
    by_cases e : o = o'
    · rw [if_pos e] at h; cases h; simp [lookN, e]
    · rw [if_neg e] at h
      have q := oldN_look h3 h
      have : n ≠ n' := by rintro rfl; rw [h1] at q; cases q
      simp [lookN, this, q]

/-- A stamp that may be read by who is handed it: unchangeable, or lent. -/
def lent (S : Stats) (E : Option (List Nat)) (σ : Nat) : Prop :=
  match lookS S σ with
  | some .imm => True
  | some (.own _ _) => match E with
    | none => True
    | some l => σ ∈ l
  | _ => False

/-- A stamp that is kept in its whole length. -/
def fullM (M : Mp) (S : Stats) (k σ : Nat) : Prop :=
  match lookM M k with
  | some (_, t, _) => (match lookS S σ with
    | some (.own t0 _) => t = t0
    | _ => False)
  | none => False

/-- A head that is kept as if there were nothing behind it. -/
def cutM (M : Mp) (S : Stats) (k σ tt n : Nat) : Prop :=
  match lookM M k with
  | some (_, t, _) => t = n ∧ (match lookS S σ with
    | some (.own t0 _) => tt = t0
    | _ => False)
  | none => False

def relPs (B : Bm) : List V → List V → Prop
  | [], [] => True
  | .ptr b o :: r, .ptr b' o' :: s => o = o' ∧ lookN B b' = some b ∧ relPs B r s
  | _, _ => False

def relC (M : Mp) (S : Stats) (E : Option (List Nat)) (B : Bm) : V → V → Prop
  | _, .undef => True
  | .sl (some σ) sz xs, .sl (some k) sz' ys => sz = sz' ∧ xs = ys ∧ newM M σ = some k ∧ fullM M S k σ
  | .vw σ (some tt) sz xs, .sl (some k) sz' ys => sz = sz' ∧ xs = ys ∧ newM M σ = some k ∧ cutM M S k σ tt xs.length
  | .nils, .sl (some k) sz ys => ys = [] ∧ lookM M k = some (none, 0, sz)
  | .sl (some σ) sz xs, .sl none sz' ys => sz = sz' ∧ xs = ys ∧ lent S E σ ∧ newM M σ = none
  | .vw σ _ sz xs, .sl none sz' ys => sz = sz' ∧ xs = ys ∧ lent S E σ ∧ newM M σ = none
  | .sl none sz xs, .sl none sz' ys => sz = sz' ∧ xs = ys
  | .nils, .sl none _ ys => ys = []
  | .nils, .nils => True
  | .bool a, .bool b => a = b
  | .int k n, .int k' m => k = k' ∧ n = m
  | .str a, .str b => a = b
  | .nilp, .nilp => True
  | .ptr b o, .ptr b' o' => o = o' ∧ lookN B b' = some b
  | .fn f cs, .fn g ds => f = g ∧ relPs B cs ds
  | _, _ => False

def relCs (M : Mp) (S : Stats) (E : Option (List Nat)) (B : Bm) : List V → List V → Prop
  | [], [] => True
  | x :: r, y :: s => relC M S E B x y ∧ relCs M S E B r s
  | _, _ => False

def relA (M : Mp) (S : Stats) (E : Option (List Nat)) (B : Bm) : V → V → Prop
  | .agg cs, .agg ds => relCs M S E B cs ds
  | x, y => relC M S E B x y

def relAs (M : Mp) (S : Stats) (E : Option (List Nat)) (B : Bm) : List V → List V → Prop
  | [], [] => True
  | x :: r, y :: s => relA M S E B x y ∧ relAs M S E B r s
  | _, _ => False

/-- A value, and the value that is said of it afterwards. -/
def relV (M : Mp) (S : Stats) (E : Option (List Nat)) (B : Bm) : V → V → Prop
  | .tup cs, .tup ds => relAs M S E B cs ds
  | x, y => relA M S E B x y

theorem Evo.stat {S S' : Stats} (h : ∀ k, lookS S k = lookS S' k) (γ : Ghost) (w : World) : Evo S γ w S' γ w :=
  ⟨fun g o h1 h2 => ⟨h1, h2⟩, fun d g h => h, fun σ q => by rw [← h]; exact q, fun σ q => .inl (by rw [← h]; exact q),
    fun σ top sz q => .inr (.inr ⟨top, by rw [← h]; exact q, Nat.le_refl _, fun g c e fr h1 h2 => .inl ⟨h1, c, h2, rfl, fun k _ => rfl⟩⟩)⟩

theorem HInv.stat {K : Ctx} {Bo : List (Nat × List V)} {S S' : Stats} {γ : Ghost} {w : World} (hs : ∀ k, lookS S k = lookS S' k) (h : HInv K Bo S γ w) : HInv K Bo S' γ w :=
  ⟨fun d cs hl => by
    obtain ⟨g, c, e, h1, h2, h3, h4, h5⟩ := h.box d cs hl
    exact ⟨g, c, e, h1, h2, h3, h4, fun k q1 q2 => (h5 k q1 q2).evo (.stat hs γ w)⟩, h.bxd, fun σ top sz q => h.sp σ top sz (by rw [hs]; exact q), h.ow, h.av, h.frame⟩

section
variable {S : Stats} {M : Mp} {K : Ctx} {γ γ' : Ghost} {w : World} {E : Option (List Nat)} {B : Bm}

/-- The ghost of a state that says less. -/
structure Less (S : Stats) (M : Mp) (E : Option (List Nat)) (B : Bm) (γ γ' : Ghost) : Prop where
  o : ∀ g, γ'.O g → γ.O g
  gone : ∀ σ top sz g, lookS S σ = some (.own top sz) → lent S E σ → newM M σ = none → γ.sp σ = some g → ¬ γ'.O g
  sp : ∀ k σ t s, lookM M k = some (some σ, t, s) → γ'.sp k = γ.sp σ
  bx : ∀ n o g, lookN B n = some o → γ.bx o = some g → γ'.bx n = some g

/-- The ghost behind a weakening. -/
def weakG (M : Mp) (B : Bm) (γ : Ghost) : Ghost :=
  { bx := fun d => (lookN B d).bind γ.bx
    sp := fun k => match lookM M k with | some (some σ, _, _) => γ.sp σ | _ => none
    ow := fun g => match γ.ow g with
      | some (true, d) => match oldN B d with | some n => if γ.bx d = some g then some (true, n) else none | none => none
      | some (false, σ) => match newM M σ with | some k => some (false, k) | none => none
      | none => none
    av := γ.av }

theorem weakG_O {g : Nat} (h : (weakG M B γ).O g) : γ.O g := by
  rcases h with h | h
  · refine .inl fun e => h ?_
    simp [weakG, e]
  · exact .inr h

theorem okM_new : ∀ {M : Mp} {σ k : Nat}, okM S M → newM M σ = some k → ∃ t s t0, lookM M k = some (some σ, t, s) ∧ lookS S σ = some (.own t0 s) ∧ t ≤ t0
  | [], σ, k, _, h => by simp [newM] at h
  | (j, some τ, t, s) :: r, σ, k, h, hn => by
    obtain ⟨h1, h2, h3, h4⟩ := h
    simp only [newM] at hn
    by_cases e : τ = σ
    · subst e
      simp at hn
      subst hn
      split at h3
      · rename_i t0 s0 e3
        obtain ⟨rfl, h3⟩ := h3
        exact ⟨t, s0, t0, by simp [lookM], e3, h3⟩
      · exact h3.elim
    · have e2 : ¬ (some τ = some σ) := by simpa using e
      rw [if_neg e2] at hn
      obtain ⟨t', s', t0, q1, q2, q3⟩ := okM_new h4 hn
      have : k ≠ j := by rintro rfl; rw [h1] at q1; cases q1
      exact ⟨t', s', t0, by simp [lookM, this, q1], q2, q3⟩
  | (j, none, t, s) :: r, σ, k, h, hn => by
    obtain ⟨h1, h2, h4⟩ := h
    simp only [newM] at hn
    rw [if_neg (by simp)] at hn
    obtain ⟨t', s', t0, q1, q2, q3⟩ := okM_new h4 hn
    have : k ≠ j := by rintro rfl; rw [h1] at q1; cases q1
    exact ⟨t', s', t0, by simp [lookM, this, q1], q2, q3⟩

theorem okM_look : ∀ {M : Mp} {k t s : Nat} {σ : Option Nat}, okM S M → lookM M k = some (σ, t, s) →
    (∃ τ t0, σ = some τ ∧ newM M τ = some k ∧ lookS S τ = some (.own t0 s) ∧ t ≤ t0) ∨ (σ = none ∧ t = 0)
  | [], k, t, s, σ, _, h => by simp [lookM] at h
  | (j, some τ, t', s') :: r, k, t, s, σ, h, hl => by
    obtain ⟨h1, h2, h3, h4⟩ := h
    simp only [lookM] at hl
    by_cases e : k = j
    · rw [if_pos e] at hl
      cases hl
      subst e
      split at h3
      · obtain ⟨rfl, h3⟩ := h3
        exact .inl ⟨τ, _, rfl, by simp [newM], ‹_›, h3⟩
      · exact h3.elim
    · rw [if_neg e] at hl
      rcases okM_look h4 hl with ⟨τ', t0, q1, q2, q3⟩ | q
      · refine .inl ⟨τ', t0, q1, ?_, q3⟩
        have : τ ≠ τ' := by rintro rfl; rw [h2] at q2; cases q2
        simp [newM, this, q2]
      · exact .inr q
  | (j, none, t', s') :: r, k, t, s, σ, h, hl => by
    obtain ⟨h1, h2, h4⟩ := h
    simp only [lookM] at hl
    by_cases e : k = j
    · rw [if_pos e] at hl
      cases hl
      exact .inr ⟨rfl, h2⟩
    · rw [if_neg e] at hl
      rcases okM_look h4 hl with ⟨τ', t0, q1, q2, q3⟩ | q
      · exact .inl ⟨τ', t0, q1, by simp [newM, q2], q3⟩
      · exact .inr q

theorem lookS_statM : ∀ (M : Mp) (k : Nat), lookS (statM M) k = match lookM M k with | some (_, t, s) => some (.own t s) | none => none
  | [], k => by simp [statM, lookS, lookM]
  | (j, o, t, s) :: r, k => by
    simp only [statM, lookS, lookM]
    by_cases e : k = j
    · simp [e]
    · rw [if_neg e, if_neg e]; exact lookS_statM r k

variable {Bo : List (Nat × List V)}

theorem weakG_less (h : HInv K Bo S γ w) : Less S M E B γ (weakG M B γ) := by
  refine ⟨fun g => weakG_O, fun σ top sz g hs _ hk hg => ?_, fun k σ t s hl => by simp [weakG, hl], fun n o g h1 h2 => by simp [weakG, h1, h2]⟩
  rcases h.sp σ top sz hs with ⟨q1, _⟩ | ⟨g2, _, _, q1, q2, _⟩
  · rw [hg] at q1; cases q1
  · rw [hg] at q1
    obtain rfl := Option.some.inj q1
    rintro (q | q)
    · simp [weakG, q2, hk] at q
    · have := (h.av.2 g q).2
      rw [q2] at this
      cases this

section
variable (hL : Less S M E B γ γ') (hM : okM S M)
include hL hM

theorem weak_own {σ top sz : Nat} {pre : Bool} {xs : List V} {v : Value} {k : Nat} (hk : newM M σ = some k) (ho : OwnSl γ w σ top sz pre xs v) : OwnSl γ' w k top sz pre xs v := by
  obtain ⟨t, s, t0, q1, q2, q3⟩ := okM_new hM hk
  rcases ho with ho | ⟨g, off, cap, c, e, fr, us, ev, hg, hcap, hmax, hsz, hlen, hus, h1, hel, hown⟩
  · exact .inl ho
  · refine .inr ⟨g, off, cap, c, e, fr, us, ev, hg, hcap, hmax, hsz, hlen, hus, h1, fun k h h' => (hel k h h').mono fun g o q1 q2 => ⟨fun q => q1 (hL.o _ q), q2⟩, ?_⟩
    rcases hown with ⟨r1, r2⟩ | ⟨r1, r2⟩
    · exact .inl ⟨by rw [hL.sp _ _ _ _ q1]; exact r1, r2⟩
    · exact .inr ⟨fun q => r1 (hL.o _ q), r2⟩

theorem weak_gone {σ top sz : Nat} {pre : Bool} {xs : List V} {v : Value} (hs : lookS S σ = some (.own top sz)) (hl : lent S E σ) (hk : newM M σ = none) (ho : OwnSl γ w σ top sz pre xs v) : PRel γ'.O w (.sl none sz xs) v := by
  rcases ho with ⟨rfl, rfl⟩ | ⟨g, off, cap, c, e, fr, us, rfl, hg, hcap, hmax, hsz, hlen, hus, h1, hel, hown⟩
  · exact .slnil sz
  · refine .sl sz xs g off cap c e fr us hg ?_ hcap hmax hsz hlen hus h1 (fun k h h' => (hel k h h').mono fun g o q1 q2 => ⟨fun q => q1 (hL.o _ q), q2⟩)
    rcases hown with ⟨r1, r2⟩ | ⟨r1, r2⟩
    · exact hL.gone σ top sz g hs hl hk r1
    · exact fun q => r1 (hL.o _ q)

omit hM in
theorem relPs_rel : ∀ {xs ys : List V} {vs : List Value}, relPs B xs ys → vs.length = xs.length → (∀ k (h1 : k < xs.length) (h2 : k < vs.length), VRel S γ w xs[k] vs[k]) →
    vs.length = ys.length ∧ ∀ k (h1 : k < ys.length) (h2 : k < vs.length), VRel (statM M) γ' w ys[k] vs[k]
  | [], [], vs, _, hl, _ => ⟨hl, fun k h => by simp at h⟩
  | .ptr b o :: r, .ptr b' o' :: s, [], h, hl, _ => by simp at hl
  | .ptr b o :: r, .ptr b' o' :: s, v :: vs, h, hl, hv => by
    obtain ⟨rfl, h2, h3⟩ := h
    obtain ⟨h4, h5⟩ := relPs_rel (vs := vs) h3 (by simpa using hl) (fun k q1 q2 => hv (k + 1) (by simpa using q1) (by simpa using q2))
    refine ⟨by simp [h4], fun k hk hk' => ?_⟩
    cases k with
    | zero =>
      have := hv 0 (by simp) (by simp)
      obtain ⟨g, e, hg⟩ := VRel.ptr_inv this
      simp only [List.getElem_cons_zero] at e ⊢
      rw [e]
      exact .ptr (hL.bx _ _ _ h2 hg)
    | succ k => exact h5 k (by simpa using hk) (by simpa using hk')

theorem weak_cell {x y : V} {v : Value} (hr : relC M S E B x y) (hv : VRel S γ w x v) : VRel (statM M) γ' w y v := by
  have hp : ∀ {x : V}, PRel γ.O w x v → PRel γ'.O w x v := fun q => q.mono fun g o q1 q2 => ⟨fun q => q1 (hL.o _ q), q2⟩
  by_cases hy : y = .undef
  · subst hy; exact .base (.undef _)
  cases x <;> cases y <;> simp only [relC] at hr <;> first | exact hr.elim | exact absurd rfl hy | skip
  case bool.bool a b => subst hr; obtain rfl := hv.bool_inv; exact .base (.bool _)
  case int.int k n k' m => obtain ⟨rfl, rfl⟩ := hr; obtain rfl := hv.int_inv; exact .base (.int _ _)
  case str.str a b => subst hr; obtain ⟨s, rfl, e⟩ := hv.str_inv; exact .base (.str _ _ e)
  case nils.nils => obtain rfl := hv.nils_inv; exact .base .nils
  case nils.sl σ sz ys =>
    obtain rfl := hv.nils_inv
    cases σ with
    | none => simp only [relC] at hr; subst hr; exact .base (.slnil _)
    | some k =>
      simp only [relC] at hr
      obtain ⟨rfl, hl⟩ := hr
      exact .own (top := 0) (by rw [lookS_statM, hl]) (.inl ⟨rfl, rfl⟩)
  case sl.sl σ sz xs τ sz' ys =>
    cases σ with
    | none =>
      cases τ with
      | none =>
        simp only [relC] at hr
        obtain ⟨rfl, rfl⟩ := hr
        cases hv with | base hv => exact .base (hp hv)
      | some k => simp [relC] at hr
    | some σ =>
      cases τ with
      | none =>
        simp only [relC] at hr
        obtain ⟨rfl, rfl, hal, hnew⟩ := hr
        cases hv with
        | base hv => cases hv
        | own hs hv => exact .base (weak_gone hL hM hs hal hnew hv)
        | imm hs hv => exact .base (hp hv)
        | dead hs hv => simp [lent, hs] at hal
      | some k =>
        simp only [relC] at hr
        obtain ⟨rfl, rfl, hnew, hfull⟩ := hr
        obtain ⟨t, s, t0, q1, q2, q3⟩ := okM_new hM hnew
        simp only [fullM, q1, q2] at hfull
        subst hfull
        cases hv with
        | base hv => cases hv
        | own hs hv =>
          rw [q2] at hs
          cases hs
          exact .own (by rw [lookS_statM, q1]) (weak_own hL hM hnew hv)
        | imm hs hv => rw [q2] at hs; cases hs
        | dead hs hv => rw [q2] at hs; cases hs
  case vw.sl σ tt sz xs τ sz' ys =>
    cases τ with
    | some k =>
      cases tt with
      | none => simp [relC] at hr
      | some tt =>
        simp only [relC] at hr
        obtain ⟨rfl, rfl, hnew, hcut⟩ := hr
        obtain ⟨t, s, t0, q1, q2, q3⟩ := okM_new hM hnew
        simp only [cutM, q1, q2] at hcut
        obtain ⟨rfl, rfl⟩ := hcut
        cases hv with
        | base hv => cases hv
        | vown hs hv ht hp =>
          rw [q2] at hs
          cases hs
          refine .own (by rw [lookS_statM, q1]) ?_
          rcases hp rfl with ⟨rfl, rfl⟩ | ⟨g, cap, c, e, rfl, h1, h2, h3, h4, h5, h6⟩
          · exact .inl ⟨rfl, rfl⟩
          · rcases hv with ⟨hv, _⟩ | ⟨g', off, cap', c1, e1, fr, us, ev, hg, hcap, hmax, hsz, hlen, hus, h1c, hel, hown⟩
            · cases hv
            · cases ev
              rw [h1] at hg
              cases hg
              refine .inr ⟨g, 0, cap, c, e, (0, 0), us, rfl, h1, hcap, hmax, hsz, hlen, hus, h1c, fun k h h' => (hel k h h').mono fun g o q1 q2 => ⟨fun q => q1 (hL.o _ q), q2⟩, .inl ⟨by rw [hL.sp _ _ _ _ q1]; exact h2, by simp, fun _ => ⟨rfl, rfl, h3, Nat.le_refl _⟩⟩⟩
        | vimm hs hv => rw [q2] at hs; cases hs
        | vdead hs hv => rw [q2] at hs; cases hs
    | none =>
      simp only [relC] at hr
      obtain ⟨rfl, rfl, hal, hnew⟩ := hr
      cases hv with
      | base hv => cases hv
      | vown hs hv _ _ => exact .base (weak_gone hL hM hs hal hnew hv)
      | vimm hs hv => exact .base (hp hv)
      | vdead hs hv => simp [lent, hs] at hal
  case nilp.nilp => obtain rfl := hv.nilp_inv; exact .nilp
  case ptr.ptr b o b' o' =>
    obtain ⟨rfl, hb⟩ := hr
    obtain ⟨g, rfl, hg⟩ := hv.ptr_inv
    exact .ptr (hL.bx _ _ _ hb hg)
  case fn.fn f cs g ds =>
    obtain ⟨rfl, hc⟩ := hr
    obtain ⟨vs, rfl, hl, he⟩ := hv.fn_inv
    obtain ⟨q1, q2⟩ := relPs_rel hL hc hl he
    exact .fn _ _ _ q1 q2

omit hL hM in
theorem relCs_get : ∀ {xs ys : List V}, relCs M S E B xs ys → xs.length = ys.length ∧ ∀ k (h1 : k < xs.length) (h2 : k < ys.length), relC M S E B xs[k] ys[k]
  | [], [], _ => ⟨rfl, fun k h => by simp at h⟩
  | x :: r, y :: s, h => by
    obtain ⟨h1, h2⟩ := h
    obtain ⟨h3, h4⟩ := relCs_get h2
    refine ⟨by simp [h3], fun k hk hk' => ?_⟩
    cases k with
    | zero => exact h1
    | succ k => exact h4 k (by simpa using hk) (by simpa using hk')
  | [], _ :: _, h => h.elim
  | _ :: _, [], h => h.elim

omit hL hM in
theorem relAs_get : ∀ {xs ys : List V}, relAs M S E B xs ys → xs.length = ys.length ∧ ∀ k (h1 : k < xs.length) (h2 : k < ys.length), relA M S E B xs[k] ys[k]
  | [], [], _ => ⟨rfl, fun k h => by simp at h⟩
  | x :: r, y :: s, h => by
    obtain ⟨h1, h2⟩ := h
    obtain ⟨h3, h4⟩ := relAs_get h2
    refine ⟨by simp [h3], fun k hk hk' => ?_⟩
    cases k with
    | zero => exact h1
    | succ k => exact h4 k (by simpa using hk) (by simpa using hk')
  | [], _ :: _, h => h.elim
  | _ :: _, [], h => h.elim

theorem weak_cells {xs ys : List V} {vs : List Value} (hr : relCs M S E B xs ys) (hv : CellsRel S γ w xs vs) : CellsRel (statM M) γ' w ys vs := by
  obtain ⟨h1, h2⟩ := relCs_get hr
  exact ⟨by rw [hv.1, h1], fun k q1 q2 => weak_cell hL hM (h2 k (by omega) q1) (hv.2 k (by omega) q2)⟩

theorem weak_A {x y : V} {v : Value} (hr : relA M S E B x y) (hv : VRel S γ w x v) : VRel (statM M) γ' w y v := by
  unfold relA at hr
  split at hr
  · obtain ⟨vs, rfl, hl, he⟩ := hv.agg_inv
    obtain ⟨q1, q2⟩ := weak_cells hL hM hr ⟨hl, he⟩
    exact .agg _ _ q1 q2
  · exact weak_cell hL hM hr hv

theorem weak_As {xs ys : List V} {vs : List Value} (hr : relAs M S E B xs ys) (hl : vs.length = xs.length) (hv : ∀ k (h1 : k < xs.length) (h2 : k < vs.length), VRel S γ w xs[k] vs[k]) : CellsRel (statM M) γ' w ys vs := by
  obtain ⟨h1, h2⟩ := relAs_get hr
  exact ⟨by omega, fun k q1 q2 => weak_A hL hM (h2 k (by omega) q1) (hv k (by omega) q2)⟩

theorem weak_V {x y : V} {v : Value} (hr : relV M S E B x y) (hv : VRel S γ w x v) : VRel (statM M) γ' w y v := by
  unfold relV at hr
  split at hr
  · obtain ⟨vs, rfl, hl, he⟩ := hv.tup_inv
    obtain ⟨q1, q2⟩ := weak_As hL hM hr hl he
    exact .tup _ _ q1 q2
  · exact weak_A hL hM hr hv
end

/-- Which variables are kept, and what is said of them. -/
def okB (M : Mp) (S : Stats) (E : Option (List Nat)) (Bo : List (Nat × List V)) (B : Bm) : List (Nat × List V) → Prop
  | [] => True
  | (b, cs) :: r => (match lookN B b with | some b' => (match lookB Bo b' with | some ds => relCs M S E B ds cs | none => False) | none => False) ∧ okB M S E Bo B r

def hasB (B' : List (Nat × List V)) : Bm → Prop
  | [] => True
  | (n, _) :: r => (lookB B' n).isSome = true ∧ hasB B' r

theorem hasB_look {B' : List (Nat × List V)} : ∀ {B : Bm}, hasB B' B → ∀ {n o : Nat}, lookN B n = some o → (lookB B' n).isSome = true
  | [], _, n, o, h => by simp [lookN] at h
  | (n', o') :: r, ⟨h1, h2⟩, n, o, h => by
    simp only [lookN] at h
    by_cases e : n = n'
    · rw [e]; exact h1
    · rw [if_neg e] at h; exact hasB_look h2 h

/-- The variables that were handed over are kept. -/
def keepB (B : Bm) : List (Nat × List V) → Prop
  | [] => True
  | (b, _) :: r => (1000 ≤ b → lookN B b = some b) ∧ keepB B r

theorem keepB_look {B : Bm} : ∀ {Bo : List (Nat × List V)}, keepB B Bo → ∀ {b : Nat}, 1000 ≤ b → (lookB Bo b).isSome = true → lookN B b = some b
  | [], _, b, _, h => by simp [lookB] at h
  | (b', cs) :: r, ⟨h1, h2⟩, b, hb, h => by
    simp only [lookB] at h
    by_cases e : b = b'
    · subst e; exact h1 hb
    · rw [if_neg e] at h; exact keepB_look h2 hb h

theorem okB_look : ∀ {B' : List (Nat × List V)}, okB M S E Bo B B' → ∀ {b : Nat} {cs : List V}, lookB B' b = some cs → ∃ b' ds, lookN B b = some b' ∧ lookB Bo b' = some ds ∧ relCs M S E B ds cs
  | [], _, b, cs, hl => by simp [lookB] at hl
  | (b', cs') :: r, ho, b, cs, hl => by
    obtain ⟨h2, h3⟩ := ho
    simp only [lookB] at hl
    by_cases e : b = b'
    · rw [if_pos e] at hl
      cases hl
      subst e
      cases q : lookN B b with
      | none => rw [q] at h2; exact h2.elim
      | some o =>
        rw [q] at h2
        simp only at h2
        cases q2 : lookB Bo o with
        | none => rw [q2] at h2; exact h2.elim
        | some ds => rw [q2] at h2; exact ⟨o, ds, rfl, q2, h2⟩
    · rw [if_neg e] at hl
      exact okB_look h3 hl

theorem weak_H (h : HInv K Bo S γ w) (hM : okM S M) {B' : List (Nat × List V)} (hN : okN B) (hB : okB M S E Bo B B') (hB2 : hasB B' B) (hB3 : keepB B Bo) : HInv K B' (statM M) (weakG M B γ) w := by
  have hL : Less S M E B γ (weakG M B γ) := weakG_less h
  refine ⟨fun d cs hl => ?_, ⟨fun d g hg => ?_, fun d g hg => ?_⟩, fun k t s hs => ?_, fun g x hg => ?_, ⟨h.av.1, fun g hg => ?_⟩, h.frame⟩
  · obtain ⟨o, ds, q1, q2, q3⟩ := okB_look hB hl
    obtain ⟨g, c, e, r1, r2, r3, r4, r5⟩ := h.box o ds q2
    obtain ⟨u1, u2⟩ := weak_cells (vs := c.toList) hL hM q3 ⟨by simpa using r4, fun k a1 a2 => by simpa using r5 k a1 (by simpa using a2)⟩
    exact ⟨g, c, e, by simp [weakG, q1, r1], by simp [weakG, r2, lookN_old hN q1, r1], r3, by simpa using u1, fun k a1 a2 => by have := u2 k a1 (by simpa using a2); simpa only [Array.getElem_toList] using this⟩
  · simp only [weakG] at hg
    cases q : lookN B d with
    | none => rw [q] at hg; cases hg
    | some o => exact hasB_look hB2 q
  · have h1 := h.bxd.2 d g hg
    have := keepB_look hB3 (K.l1000 d g hg) (h.bxd.1 _ _ h1)
    simp [weakG, this, h1]
  · rw [lookS_statM] at hs
    split at hs
    · rename_i o t' s' hl
      cases hs
      rcases okM_look hM hl with ⟨τ, t0, rfl, q1, q2, q3⟩ | ⟨rfl, rfl⟩
      · rcases h.sp τ t0 s q2 with ⟨r1, r2⟩ | ⟨g, c, e, r1, r2, r3, r4⟩
        · exact .inl ⟨by simp [weakG, hl, r1], by omega⟩
        · exact .inr ⟨g, c, e, by simp [weakG, hl, r1], by simp [weakG, r2, q1], r3, Nat.le_trans (Nat.mul_le_mul_right _ q3) r4⟩
      · exact .inl ⟨by simp [weakG, hl], rfl⟩
    · cases hs
  · simp only [weakG] at hg
    cases e : γ.ow g with
    | none => rw [e] at hg; cases hg
    | some y => exact h.ow g y e
  · have := h.av.2 g hg
    exact ⟨this.1, by simp [weakG, this.2]⟩

end
end

section

/-- The block of a variable that holds some number. -/
def TbNum (g : Nat) (av : Nat → Prop) (w : World) : Prop := av g ∧ ∃ m, w.cell? ⟨g, 0, none⟩ = some (.int .i64 m)

/-- The block of a variable that holds a table. -/
def TbTab (g : Nat) (k : IntKind) (zs : List Int) (av : Nat → Prop) (w : World) : Prop := av g ∧ ∃ t fr, w.heap[g]? = some (.cells (zs.map fun z => Value.int k z).toArray t fr)

theorem TbNum.mono {g : Nat} {av av' : Nat → Prop} {w w' : World} (h : TbNum g av w) (ha : ∀ g, av g → av' g) (hw : ∀ g, av g → w'.heap[g]? = w.heap[g]?) : TbNum g av' w' := by
  obtain ⟨h1, m, h2⟩ := h
  refine ⟨ha g h1, m, ?_⟩
  simp only [World.cell?] at h2 ⊢
  rw [hw g h1]; exact h2

theorem TbTab.mono {g : Nat} {k : IntKind} {zs : List Int} {av av' : Nat → Prop} {w w' : World} (h : TbTab g k zs av w) (ha : ∀ g, av g → av' g) (hw : ∀ g, av g → w'.heap[g]? = w.heap[g]?) : TbTab g k zs av' w' := by
  obtain ⟨h1, t, fr, h2⟩ := h
  exact ⟨ha g h1, t, fr, by rw [hw g h1]; exact h2⟩

/-- What the library's variables hold. -/
structure Tb (av : Nat → Prop) (w : World) : Prop where

theorem Tb.mono {av av' : Nat → Prop} {w w' : World} (h : Tb av w) (ha : ∀ g, av g → av' g) (hw : ∀ g, av g → w'.heap[g]? = w.heap[g]?) : Tb av' w' where

/-- The blocks that lie there and that nobody owns. -/
def Ghost.un (γ : Ghost) (w : World) (g : Nat) : Prop := g < w.heap.size ∧ γ.ow g = none

/-- A frame in which the tables lie where nobody may change them. -/
structure Ctx.ok (K : Ctx) : Prop where
  tb : Tb (fun g => g < K.w0.heap.size ∧ ¬ K.init g) K.w0
  av : ∀ g, K.av g → g < K.w0.heap.size ∧ ¬ K.init g
end

section

def cellStat : V → Stats
  | .sl (some k) sz xs => [(k, some (.own xs.length sz))]
  | _ => []

def cellsStat : List V → Stats
  | [] => []
  | x :: r => cellStat x ++ cellsStat r

/-- The stamps of results, or of what is handed over: each is owned, and as long as the slice that bears it. -/
def compsStat : List V → Stats
  | [] => []
  | x :: r => cellsStat x.cells ++ compsStat r

def V.comps : V → List V
  | .tup vs => vs
  | v => [v]

def V.stat (x : V) : Stats := compsStat x.comps

def boxesFrom (i : Nat) : List (List V) → List (Nat × List V)
  | [] => []
  | b :: r => (i, b) :: boxesFrom (i + 1) r

/-- The variables that are handed over: numbers 1000, 1001 and so on. -/
def boxesOf (bs : List (List V)) : List (Nat × List V) := boxesFrom 1000 bs

def boxesStat : List (List V) → Stats
  | [] => []
  | b :: r => cellsStat b ++ boxesStat r

def argStat (args : List V) (bi : List (List V)) : Stats := compsStat args ++ boxesStat bi
def resStat (R : V) (bo : List (List V)) : Stats := R.stat ++ boxesStat bo

def Ctx.ofGhost (w : World) (γ : Ghost) : Ctx :=
  ⟨w, fun g => γ.ow g ≠ none, γ.av, fun d => if 1000 ≤ d then γ.bx d else none, fun d g h => by
    by_cases e : 1000 ≤ d
    · exact e
    · rw [if_neg e] at h; cases h⟩

/-- How a call ends: with a value that reads as 'R', and variables that read as 'bo'. -/
def Exits (K : Ctx) (R : V) (bo : List (List V)) (e : Ending) (w' : World) : Prop :=
  ∃ v γ', e = .returned v ∧ HInv K (boxesOf bo) (resStat R bo) γ' w' ∧ VRel (resStat R bo) γ' w' R v

/-- THE CONTRACT OF A FUNCTION: called with what reads as 'args', and with variables (numbers 1000, 1001, ..) that read as 'bi', it returns 'R', and the variables then read as 'bo'. -/
def Fn (P : Program) (f : FuncId) (args : List V) (bi : List (List V)) (R : V) (bo : List (List V)) : Prop :=
  ∀ (w : World) (γ : Ghost) (vs : List Value), Tb (γ.un w) w → HInv (.ofGhost w γ) (boxesOf bi) (argStat args bi) γ w → CellsRel (argStat args bi) γ w args vs → Calls P f vs.toArray w (Exits (.ofGhost w γ) R bo)

theorem boxesFrom_lt : ∀ {bs : List (List V)} {i d : Nat}, (lookB (boxesFrom i bs) d).isSome = true → i ≤ d
  | [], i, d, h => by simp [boxesFrom, lookB] at h
  | b :: r, i, d, h => by
    simp only [boxesFrom, lookB] at h
    by_cases e : d = i
    · omega
    · rw [if_neg e] at h
      have := boxesFrom_lt h
      omega

def renN (B : Bm) (n : Nat) : Nat := (lookN B n).getD 0

def V.renP (B : Bm) : V → V
  | .ptr n o => .ptr (renN B n) o
  | v => v

def V.ren1 (B : Bm) (d : Nat) : V → V
  | .sl (some k) sz xs => .sl (some (16 * d + k)) sz xs
  | .ptr n o => .ptr (renN B n) o
  | .fn f cs => .fn f (cs.map (V.renP B))
  | v => v

def V.renA (B : Bm) (d : Nat) : V → V
  | .agg cs => .agg (cs.map (V.ren1 B d))
  | v => v.ren1 B d

/-- A result as it stands at its caller. -/
def V.ren (B : Bm) (d : Nat) : V → V
  | .tup vs => .tup (vs.map (V.renA B d))
  | v => v.renA B d

def rsS (d : Nat) : Stats → Stats
  | [] => []
  | (k, x) :: r => (16 * d + k, x) :: rsS d r

def deadM : Mp → Stats
  | [] => []
  | (_, some σ, _, _) :: r => (σ, some .dead) :: deadM r
  | (_, none, _, _) :: r => deadM r

def V.isPtr : V → Bool
  | .ptr _ _ => true
  | _ => false

/-- A cell of a result. -/
def V.okR1 : V → Bool
  | .bool _ | .int _ _ | .str _ | .nils | .sl _ _ _ | .ptr _ _ | .nilp | .undef => true
  | .fn _ cs => cs.all V.isPtr
  | _ => false

def V.okRA : V → Bool
  | .agg cs => cs.all V.okR1
  | v => v.okR1

def V.okR : V → Bool
  | .tup vs => vs.all V.okRA
  | v => v.okRA

/-- Names that nobody bears yet. -/
def freshAll (d : Nat) (st : Stats) : Stats → Prop
  | [] => True
  | (k, _) :: r => k < 16 ∧ lookS st (16 * d + k) = none ∧ freshAll d st r

/-! ## Results that hold nothing of what was lent -/

def V.pure1 : V → Bool
  | .bool _ | .int _ _ | .str _ | .nils | .undef => true
  | _ => false

def V.pure : V → Bool
  | .agg cs => cs.all V.pure1
  | v => v.pure1

def V.nr1 (T : Stats) : V → Prop
  | .sl (some k) sz xs => lookS T k = some (.own xs.length sz) ∧ ∀ x ∈ xs, x.cells.all V.pure1 = true
  | .sl none _ _ => False
  | _ => True

def nrs (T : Stats) : List V → Prop
  | [] => True
  | x :: r => x.nr1 T ∧ nrs T r

def V.nrA (T : Stats) : V → Prop
  | .agg cs => nrs T cs
  | v => v.nr1 T

def nrAs (T : Stats) : List V → Prop
  | [] => True
  | x :: r => x.nrA T ∧ nrAs T r

def V.nr (T : Stats) : V → Prop
  | .tup vs => nrAs T vs
  | v => v.nrA T

def nrB (T : Stats) : List (List V) → Prop
  | [] => True
  | b :: r => nrs T b ∧ nrB T r

/-- Nothing of what was lent lies in a result. -/
def noref (R : V) (bo : List (List V)) : Prop := R.nr (resStat R bo) ∧ nrB (resStat R bo) bo

theorem nrs_mem {T : Stats} : ∀ {l : List V}, nrs T l → ∀ x ∈ l, x.nr1 T
  | [], _, x, h => by simp at h
  | y :: r, ⟨h1, h2⟩, x, h => by
    rcases List.mem_cons.1 h with rfl | h
    · exact h1
    · exact nrs_mem h2 x h

theorem nrAs_mem {T : Stats} : ∀ {l : List V}, nrAs T l → ∀ x ∈ l, x.nrA T
  | [], _, x, h => by simp at h
  | y :: r, ⟨h1, h2⟩, x, h => by
    rcases List.mem_cons.1 h with rfl | h
    · exact h1
    · exact nrAs_mem h2 x h

theorem pure1_rel {O O' : Nat → Prop} {w w' : World} {x : V} {v : Value} (hx : x.pure1 = true) (h : PRel O w x v) : PRel O' w' x v := by
  cases h <;> simp [V.pure1] at hx
  case undef => exact .undef _
  case bool => exact .bool _
  case int => exact .int _ _
  case str h => exact .str _ _ h
  case nils => exact .nils

/-- How the names of a result are turned. -/
structure Turn (T S : Stats) (γ' γ2 : Ghost) (B : Bm) (d : Nat) : Prop where
  s : ∀ k t s, lookS T k = some (.own t s) → lookS S (16 * d + k) = some (.own t s) ∧ γ2.sp (16 * d + k) = γ'.sp k
  own : ∀ k x, lookS T k = some x → ∃ t s, x = .own t s
  b : ∀ n g, γ'.bx n = some g → γ2.bx (renN B n) = some g

section
variable {T S : Stats} {γ' γ2 : Ghost} {w : World} {B : Bm} {d : Nat}

theorem renP_rel (hT : Turn T S γ' γ2 B d) {x : V} {v : Value} (hx : x.isPtr = true) (h : VRel T γ' w x v) : VRel S γ2 w (x.renP B) v := by
  cases x <;> simp [V.isPtr] at hx
  obtain ⟨g, rfl, hg⟩ := h.ptr_inv
  exact .ptr (hT.b _ _ hg)

theorem ren1_rel (hT : Turn T S γ' γ2 B d) {x : V} {v : Value} (hn : (∀ g, γ2.O g ↔ γ'.O g) ∨ x.nr1 T)
    (hx : x.okR1 = true) (h : VRel T γ' w x v) : VRel S γ2 w (x.ren1 B d) v := by
  cases x <;> simp [V.okR1] at hx
  case undef => exact .base (.undef _)
  case bool b => obtain rfl := h.bool_inv; exact .base (.bool _)
  case int k n => obtain rfl := h.int_inv; exact .base (.int _ _)
  case str l => obtain ⟨s, rfl, e⟩ := h.str_inv; exact .base (.str _ _ e)
  case nils => obtain rfl := h.nils_inv; exact .base .nils
  case nilp => obtain rfl := h.nilp_inv; exact .nilp
  case ptr n o => obtain ⟨g, rfl, hg⟩ := h.ptr_inv; exact .ptr (hT.b _ _ hg)
  case fn f cs =>
    obtain ⟨vs, rfl, hl, he⟩ := h.fn_inv
    refine .fn _ _ _ (by simpa using hl) (fun k q1 q2 => ?_)
    rw [List.getElem_map]
    have q3 : k < cs.length := by simpa using q1
    exact renP_rel hT (hx _ (List.getElem_mem _)) (he k q3 q2)
  case sl σ sz xs =>
    cases σ with
    | none =>
      rcases hn with hn | hn
      · cases h with | base h => exact .base (h.mono fun g o q1 q2 => ⟨fun q => q1 ((hn g).1 q), q2⟩)
      · exact hn.elim
    | some k =>
      cases h with
      | base h => cases h
      | @own _ top _ _ _ hs h =>
        obtain ⟨h1, h2⟩ := hT.s _ _ _ hs
        refine .own h1 ?_
        rcases h with h | ⟨g, off, cap, c, e, fr, us, ev, hg, hcap, hmax, hsz, hlen, hus, h1, hel, hown⟩
        · exact .inl h
        · refine .inr ⟨g, off, cap, c, e, fr, us, ev, hg, hcap, hmax, hsz, hlen, hus, h1, fun i q1 q2 => ?_, ?_⟩
          · rcases hn with hn | hn
            · exact (hel i q1 q2).mono fun g o q1 q2 => ⟨fun q => q1 ((hn g).1 q), q2⟩
            · have hm : (flat xs)[i] ∈ flat xs := List.getElem_mem _
              obtain ⟨y, hy, hc⟩ := List.mem_flatMap.1 hm
              exact pure1_rel (List.all_eq_true.1 (hn.2 y hy) _ hc) (hel i q1 q2)
          · rcases hown with ⟨q1, q2⟩ | ⟨q1, q2⟩
            · exact .inl ⟨h2.trans q1, q2⟩
            · rcases hn with hn | hn
              · exact .inr ⟨fun q => q1 ((hn g).1 q), q2⟩
              · have e2 := hn.1
                rw [hs] at e2
                have : top = xs.length := by injection e2 with e2; injection e2
                have := (q2 rfl).2
                omega
      | imm hs h => obtain ⟨t, s, e⟩ := hT.own _ _ hs; cases e
      | dead hs h => obtain ⟨t, s, e⟩ := hT.own _ _ hs; cases e

theorem ren1s_rel (hT : Turn T S γ' γ2 B d) {xs : List V} {vs : List Value} (hn : (∀ g, γ2.O g ↔ γ'.O g) ∨ nrs T xs) (hx : xs.all V.okR1 = true) (h : CellsRel T γ' w xs vs) : CellsRel S γ2 w (xs.map (V.ren1 B d)) vs := by
  refine ⟨by simpa using h.1, fun k hk hk' => ?_⟩
  rw [List.getElem_map]
  have hk2 : k < xs.length := by simpa using hk
  exact ren1_rel hT (or_map hn id fun q => nrs_mem q _ (List.getElem_mem _)) (List.all_eq_true.1 hx _ (List.getElem_mem _)) (h.2 k hk2 hk')

theorem renA_rel (hT : Turn T S γ' γ2 B d) {x : V} {v : Value} (hn : (∀ g, γ2.O g ↔ γ'.O g) ∨ x.nrA T) (hx : x.okRA = true) (h : VRel T γ' w x v) : VRel S γ2 w (x.renA B d) v := by
  cases x
  case agg cs =>
    obtain ⟨vs, rfl, hl, he⟩ := h.agg_inv
    obtain ⟨q1, q2⟩ := ren1s_rel hT hn hx ⟨hl, he⟩
    exact .agg _ _ q1 q2
  all_goals exact ren1_rel (T := T) hT (by exact hn) (by exact hx) h

theorem ren_rel (hT : Turn T S γ' γ2 B d) {x : V} {v : Value} (hn : (∀ g, γ2.O g ↔ γ'.O g) ∨ x.nr T) (hx : x.okR = true) (h : VRel T γ' w x v) : VRel S γ2 w (x.ren B d) v := by
  cases x
  case tup cs =>
    obtain ⟨vs, rfl, hl, he⟩ := h.tup_inv
    refine .tup _ _ (by simpa using hl) (fun k hk hk' => ?_)
    rw [List.getElem_map]
    have hk2 : k < cs.length := by simpa using hk
    exact renA_rel hT (or_map hn id fun q => nrAs_mem q _ (List.getElem_mem _)) (List.all_eq_true.1 hx _ (List.getElem_mem _)) (he k hk2 hk')
  all_goals exact renA_rel (T := T) hT (by exact hn) (by exact hx) h
end

theorem lookS_rsS (d : Nat) (S' : Stats) (k : Nat) : ∀ (S : Stats), (∀ x ∈ S, x.1 < 16) → lookS (rsS d S ++ S') (16 * d + k) = if (S.any fun x => x.1 == k) then lookS S k else lookS S' (16 * d + k)
  | [], _ => by simp [rsS]
  | (j, x) :: r, h => by
    have ih := lookS_rsS d S' k r (fun y hy => h y (List.mem_cons_of_mem _ hy))
    simp only [rsS, List.cons_append, lookS, List.any_cons]
    by_cases e : k = j
    · subst e; simp
    · have : ¬ (16 * d + k = 16 * d + j) := by omega
      rw [if_neg this, ih]
      have e2 : (j == k) = false := by simp; omega
      simp only [e2, Bool.false_or, if_neg e]

theorem lookS_rsS_other (d : Nat) (S' : Stats) (σ : Nat) : ∀ (S : Stats), (∀ x ∈ S, 16 * d + x.1 ≠ σ) → lookS (rsS d S ++ S') σ = lookS S' σ
  | [], _ => by simp [rsS]
  | (j, x) :: r, h => by
    have ih := lookS_rsS_other d S' σ r (fun y hy => h y (List.mem_cons_of_mem _ hy))
    simp only [rsS, List.cons_append, lookS]
    rw [if_neg (fun e => h (j, x) List.mem_cons_self e.symm), ih]

theorem freshAll_mem {d : Nat} {S : Stats} : ∀ {T : Stats}, freshAll d S T → ∀ x ∈ T, x.1 < 16 ∧ lookS S (16 * d + x.1) = none
  | [], _, x, h => by simp at h
  | (j, y) :: r, h, x, hx => by
    rcases List.mem_cons.1 hx with rfl | hx
    · exact ⟨h.1, h.2.1⟩
    · exact freshAll_mem h.2.2 x hx

theorem lookS_mem {S : Stats} {k : Nat} {x : Stat} (h : lookS S k = some x) : ∃ y ∈ S, y.1 = k := by
  induction S with
  | nil => simp [lookS] at h
  | cons y r ih =>
    obtain ⟨j, z⟩ := y
    simp only [lookS] at h
    by_cases e : k = j
    · exact ⟨(j, z), List.mem_cons_self, e.symm⟩
    · rw [if_neg e] at h
      obtain ⟨y, hy, e2⟩ := ih h
      exact ⟨y, List.mem_cons_of_mem _ hy, e2⟩

theorem cellsStat_own : ∀ {cs : List V} {k : Nat} {x : Stat}, lookS (cellsStat cs) k = some x → ∃ t s, x = .own t s
  | [], k, x, h => by simp [cellsStat, lookS] at h
  | c :: r, k, x, h => by
    simp only [cellsStat] at h
    unfold cellStat at h
    split at h
    · rename_i j sz xs
      simp only [List.cons_append, List.nil_append, lookS] at h
      by_cases e : k = j
      · rw [if_pos e] at h; cases h; exact ⟨_, _, rfl⟩
      · rw [if_neg e] at h; exact cellsStat_own h
    · exact cellsStat_own (by simpa using h)

theorem lookS_append (S T : Stats) (k : Nat) : lookS (S ++ T) k = if (S.any fun x => x.1 == k) then lookS S k else lookS T k := by
  induction S with
  | nil => simp
  | cons y r ih =>
    obtain ⟨j, x⟩ := y
    simp only [List.cons_append, lookS, List.any_cons]
    by_cases e : k = j
    · subst e; simp
    · have e2 : (j == k) = false := by simp; omega
      simp only [e2, Bool.false_or, if_neg e, ih]

theorem compsStat_own : ∀ {cs : List V} {k : Nat} {x : Stat}, lookS (compsStat cs) k = some x → ∃ t s, x = .own t s
  | [], k, x, h => by simp [compsStat, lookS] at h
  | c :: r, k, x, h => by
    simp only [compsStat] at h
    rw [lookS_append] at h
    split at h
    · exact cellsStat_own h
    · exact compsStat_own h

theorem boxesStat_own : ∀ {bs : List (List V)} {k : Nat} {x : Stat}, lookS (boxesStat bs) k = some x → ∃ t s, x = .own t s
  | [], k, x, h => by simp [boxesStat, lookS] at h
  | c :: r, k, x, h => by
    simp only [boxesStat] at h
    rw [lookS_append] at h
    split at h
    · exact cellsStat_own h
    · exact boxesStat_own h

theorem resStat_own {R : V} {bo : List (List V)} {k : Nat} {x : Stat} (h : lookS (resStat R bo) k = some x) : ∃ t s, x = .own t s := by
  unfold resStat at h
  rw [lookS_append] at h
  split at h
  · exact compsStat_own h
  · exact boxesStat_own h

theorem lookS_deadM {S : Stats} {σ : Nat} : ∀ {M : Mp}, lookS (deadM M ++ S) σ = match newM M σ with
    | some _ => some .dead
    | none => lookS S σ
  | [] => by simp [deadM, newM]
  | (j, some τ, x) :: r => by
    have ih := lookS_deadM (S := S) (σ := σ) (M := r)
    by_cases e : σ = τ
    · subst e; simp [deadM, newM, lookS]
    · have : ¬ (τ = σ) := Ne.symm e
      simpa [deadM, newM, lookS, e, this] using ih
  | (j, none, x) :: r => by
    have ih := lookS_deadM (S := S) (σ := σ) (M := r)
    simpa [deadM, newM] using ih

/-- All that a call's state bears of stamps: what is handed over as it is read by the call. -/
def renBoxes (B : Bm) (d : Nat) (bo : List (Nat × List V)) : List (Nat × List V) := bo.map fun (b, cs) => (renN B b, cs.map (V.ren1 B d))

def hasN (B : Bm) : List (Nat × List V) → Prop
  | [] => True
  | (b, _) :: r => (lookN B b).isSome = true ∧ hasN B r

theorem hasN_look {B : Bm} : ∀ {bo : List (Nat × List V)}, hasN B bo → ∀ {b : Nat}, (lookB bo b).isSome = true → (lookN B b).isSome = true
  | [], _, b, h => by simp [lookB] at h
  | (b', cs) :: r, ⟨h1, h2⟩, b, h => by
    simp only [lookB] at h
    by_cases e : b = b'
    · rw [e]; exact h1
    · rw [if_neg e] at h; exact hasN_look h2 h

theorem lookB_ren {B : Bm} (hB : okN B) {d : Nat} {S : List (Nat × List V)} : ∀ {bo : List (Nat × List V)}, hasN B bo → ∀ {b : Nat} {cs : List V}, lookB (renBoxes B d bo ++ S) b = some cs →
    (∃ n ds, oldN B b = some n ∧ lookB bo n = some ds ∧ cs = ds.map (V.ren1 B d)) ∨ ((∀ n, oldN B b = some n → lookB bo n = none) ∧ lookB S b = some cs)
  | [], _, b, cs, h => .inr ⟨fun n _ => rfl, h⟩
  | (n, ds) :: r, ⟨h1, h2⟩, b, cs, h => by
    obtain ⟨o, ho⟩ := Option.isSome_iff_exists.1 h1
    simp only [renBoxes, List.map_cons, List.cons_append, lookB, renN, ho, Option.getD_some] at h
    by_cases e : b = o
    · rw [if_pos e] at h
      refine .inl ⟨n, ds, by rw [e]; exact lookN_old hB ho, by simp [lookB], (Option.some.inj h).symm⟩
    · rw [if_neg e] at h
      have hne : ∀ m, oldN B b = some m → m ≠ n := fun m hm q => by
        have := oldN_look hB hm
        rw [q, ho] at this
        exact e (Option.some.inj this).symm
      rcases lookB_ren hB h2 h with ⟨m, es, q1, q2, q3⟩ | ⟨q1, q2⟩
      · exact .inl ⟨m, es, q1, by simp only [lookB]; rw [if_neg (hne m q1)]; exact q2, q3⟩
      · exact .inr ⟨fun m hm => by simp only [lookB]; rw [if_neg (hne m hm)]; exact q1 m hm, q2⟩

theorem lookB_ren_some {B : Bm} {d : Nat} {S : List (Nat × List V)} : ∀ {bo : List (Nat × List V)} {b : Nat}, (∃ n, lookN B n = some b ∧ (lookB bo n).isSome = true) ∨ (lookB S b).isSome = true → (lookB (renBoxes B d bo ++ S) b).isSome = true
  | [], b, h => by
    rcases h with ⟨n, _, h⟩ | h
    · simp [lookB] at h
    · exact h
  | (n, ds) :: r, b, h => by
    simp only [renBoxes, List.map_cons, List.cons_append, lookB]
    by_cases e : b = renN B n
    · rw [if_pos e]; rfl
    · rw [if_neg e]
      refine lookB_ren_some (bo := r) ?_
      rcases h with ⟨m, q1, q2⟩ | h
      · simp only [lookB] at q2
        by_cases e2 : m = n
        · subst e2; exact absurd (by simp [renN, q1]) e
        · rw [if_neg e2] at q2; exact .inl ⟨m, q1, q2⟩
      · exact .inr h

/-- A new variable that a call hands back bears the slot's number. -/
def withNew (B : Bm) (d : Nat) : Option Nat → Bm
  | none => B
  | some n => (n, d) :: B
end

end Go.Proofs.YtpcfbgeabehmbaaGreat
