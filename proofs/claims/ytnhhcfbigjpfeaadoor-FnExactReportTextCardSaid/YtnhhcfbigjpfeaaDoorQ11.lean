/-
  A store into an element of a slice that is owned.
-/
import Derived.Test.YtnhhcfbigjpfeaaDoorQ10
namespace Go.Proofs.YtnhhcfbigjpfeaaDoor
set_option linter.all false

section

/-- The cells of an element, with some of them replaced. -/
def setCells {α : Type} (j : Nat) (cs ds : List α) : List α := ds.take j ++ cs ++ ds.drop (j + cs.length)

def wrEl (j : Nat) (cs : List V) : V → V
  | .agg ds => .agg (setCells j cs ds)
  | _ => cs.getD 0 .undef

theorem setCells_get {α : Type} {j k : Nat} {cs ds : List α} (h : j + cs.length ≤ ds.length) : (setCells j cs ds)[k]? = if j ≤ k ∧ k < j + cs.length then cs[k - j]? else ds[k]? := by
  unfold setCells
  by_cases h1 : k < j
  · rw [if_neg (by omega), List.getElem?_append_left (by simp; omega), List.getElem?_append_left (by simp; omega), List.getElem?_take, if_pos h1]
  · by_cases h2 : k < j + cs.length
    · rw [if_pos ⟨by omega, h2⟩, List.getElem?_append_left (by simp; omega), List.getElem?_append_right (by simp; omega)]
      congr 1
      simp; omega
    · rw [if_neg (by omega), List.getElem?_append_right (by simp; omega), List.getElem?_drop]
      congr 1
      simp; omega

theorem setCells_length {α : Type} {j : Nat} {cs ds : List α} (h : j + cs.length ≤ ds.length) : (setCells j cs ds).length = ds.length := by
  unfold setCells; simp; omega

theorem wrEl_cells {j : Nat} {cs : List V} {x : V} (h : j + cs.length ≤ x.cells.length) (hx : (∃ ds, x = .agg ds) ∨ ((∀ ds, x ≠ .agg ds) ∧ ∃ c, cs = [c] ∧ c.cells = [c])) : (wrEl j cs x).cells = setCells j cs x.cells := by
  rcases hx with ⟨ds, rfl⟩ | ⟨hx, c, rfl, hc⟩
  · rfl
  · have e : x.cells = [x] := by cases x <;> first | rfl | exact absurd rfl (hx _)
    rw [e] at h ⊢
    have : j = 0 := by simp at h; omega
    subst this
    have : wrEl 0 [c] x = c := by cases x <;> first | rfl | exact absurd rfl (hx _)
    rw [this, hc]
    simp [setCells]

theorem flat_set {sz : Nat} : ∀ {ys : List V} {i : Nat} {z : V}, (∀ y ∈ ys, y.cells.length = sz) → z.cells.length = sz → i < ys.length → ∀ k, (flat (ys.set i z))[k]? = if i * sz ≤ k ∧ k < i * sz + sz then z.cells[k - i * sz]? else (flat ys)[k]?
  | y :: r, 0, z, hy, hz, hi, k => by
    simp only [List.set_cons_zero, flat, List.flatMap_cons, Nat.zero_mul, Nat.zero_add, Nat.zero_le, true_and, Nat.sub_zero]
    by_cases h : k < sz
    · rw [if_pos h, List.getElem?_append_left (by omega)]
    · rw [if_neg h, List.getElem?_append_right (by omega), List.getElem?_append_right (by have := hy y List.mem_cons_self; omega), hz, hy y List.mem_cons_self]
  | y :: r, i + 1, z, hy, hz, hi, k => by
    have ih := flat_set (ys := r) (i := i) (fun x hx => hy x (List.mem_cons_of_mem _ hx)) hz (by simpa using hi)
    have h0 := hy y List.mem_cons_self
    simp only [flat] at ih
    simp only [List.set_cons_succ, flat, List.flatMap_cons]
    by_cases h : k < sz
    · have : ¬ ((i + 1) * sz ≤ k ∧ k < (i + 1) * sz + sz) := by rw [Nat.add_mul]; omega
      rw [if_neg this, List.getElem?_append_left (by omega), List.getElem?_append_left (by omega)]
    · rw [List.getElem?_append_right (by omega), ih, List.getElem?_append_right (by omega), h0]
      have e : (i + 1) * sz = i * sz + sz := by rw [Nat.add_mul]; omega
      by_cases h2 : i * sz ≤ k - sz ∧ k - sz < i * sz + sz
      · rw [if_pos h2, if_pos (by omega)]
        congr 1; omega
      · rw [if_neg h2, if_neg (by omega)]

/-- The elements of a slice, one of them written. -/
def setEl (i j : Nat) (cs : List V) (xs : List V) : List V := xs.set i (wrEl j cs (xs.getD i .undef))

def V.wr1 (σ top i j : Nat) (cs : List V) : V → V
  | .sl (some τ) sz xs => if τ = σ then (if xs.length = top then .sl (some τ) sz (setEl i j cs xs) else .undef) else .sl (some τ) sz xs
  | .vw τ t sz xs => if τ = σ then .undef else .vw τ t sz xs
  | .bb e τ l => if τ = σ then .undef else .bb e τ l
  | .elp (.sl (some τ) sz xs) p q => if τ = σ then .undef else .elp (.sl (some τ) sz xs) p q
  | .elp (.vw τ t sz xs) p q => if τ = σ then .undef else .elp (.vw τ t sz xs) p q
  | .elp (.sl none sz xs) p q => .elp (.sl none sz xs) p q
  | .elp _ _ _ => .undef
  | .fn _ _ => .undef
  | .agg _ => .undef
  | .tup [] => .tup []
  | .tup _ => .undef
  | v => v

def V.wrA (σ top i j : Nat) (cs : List V) : V → V
  | .agg ds => .agg (ds.map (V.wr1 σ top i j cs))
  | v => v.wr1 σ top i j cs

def V.wr (σ top i j : Nat) (cs : List V) : V → V
  | .tup vs => .tup (vs.map (V.wrA σ top i j cs))
  | v => v.wrA σ top i j cs

def St.wr (st : St) (σ top i j : Nat) (cs : List V) (D : List Nat) : St :=
  { env := st.env.map fun (k, v) => (k, v.wr σ top i j cs), loc := st.loc.map fun (k, v) => (k, v.wr σ top i j cs),
    box := st.box.map fun (k, l) => (k, l.map (V.wr1 σ top i j cs)), stat := toImm D ++ st.stat }

theorem look_map {f : V → V} (hf : f .undef = .undef) : ∀ {l : List (Nat × V)} {t : Nat}, look (l.map fun (k, v) => (k, f v)) t = f (look l t)
  | [], t => by simp [look, hf]
  | (k, v) :: r, t => by
    simp only [List.map_cons, look]
    by_cases e : t = k
    · simp [e]
    · rw [if_neg e, if_neg e]; exact look_map hf

theorem lookB_map {f : List V → List V} : ∀ {l : List (Nat × List V)} {t : Nat}, lookB (l.map fun (k, v) => (k, f v)) t = (lookB l t).map f
  | [], t => rfl
  | (k, v) :: r, t => by
    simp only [List.map_cons, lookB]
    by_cases e : t = k
    · simp [e]
    · rw [if_neg e, if_neg e]; exact lookB_map

section
variable {P : Program} {L : Nat → Bool} {n : Nat} {K : Ctx} {st : St} {γ : Ghost} {a : Act} {w : World} {o : Oper} {dst : AD}

theorem VRel.tup0_inv {S : Stats} {v : Value} (h : VRel S γ w (.tup []) v) : v = .tuple #[] := by
  cases h with
  | base h => cases h
  | tup cs vs hlen hel =>
    have : vs = [] := List.eq_nil_of_length_eq_zero (by simpa using hlen)
    subst this; rfl

theorem VRel.skip {S : Stats} : VRel S γ w (.tup []) undef := .tup [] [] rfl (fun k h => by simp at h)

/-- What a write into the block of a stamp does to each value. -/
theorem wr1_rel {S : Stats} {w' : World} {σ top sz g i j cap : Nat} {e : TypeId} {c c' : Array Value} {cs : List V} (hs : lookS S σ = some (.own top sz)) (hsp : γ.sp σ = some g) (hg : w.heap[g]? = some (.cells c e (0, 0)))
    (hg' : w'.heap[g]? = some (.cells c' e (0, 0))) (hoth : ∀ k, k ≠ g → w'.heap[k]? = w.heap[k]?) (hgO : γ.O g) (hspn : ∀ τ t s k, lookS S τ = some (.own t s) → γ.sp τ = some k → τ ≠ σ → k ≠ g)
    (hsz0 : 0 < top) (hfull : ∀ (xs : List V) (v : Value), xs.length = top → OwnSl γ w σ top sz true xs v → OwnSl γ w' σ top sz true (setEl i j cs xs) v)
    {x : V} {v : Value} (h : VRel S γ w x v) : VRel S γ w' (x.wr1 σ top i j cs) v ∧ (∀ cs', x = .agg cs' → True) := by
  have hkeep : ∀ k o, ¬ γ.O k → w.heap[k]? = some o → ¬ γ.O k ∧ w'.heap[k]? = some o := fun k o h1 h2 => ⟨h1, by rw [hoth k (by rintro rfl; exact h1 hgO)]; exact h2⟩
  have hown : ∀ {τ t s : Nat} {pre : Bool} {xs : List V} {v : Value}, lookS S τ = some (.own t s) → τ ≠ σ → OwnSl γ w τ t s pre xs v → OwnSl γ w' τ t s pre xs v := fun {τ t s pre xs v} q1 q2 q3 => by
    rcases q3 with q3 | ⟨k, off, cp, c2, e2, fr, us, ev, hk, hcap, hmax, hsz, hlen, hus, h1, hel, hw⟩
    · exact .inl q3
    · refine .inr ⟨k, off, cp, c2, e2, fr, us, ev, ?_, hcap, hmax, hsz, hlen, hus, h1, fun k h h' => (hel k h h').mono hkeep, hw⟩
      rcases hw with ⟨r1, _⟩ | ⟨r1, _⟩
      · rw [hoth k (hspn τ t s k q1 r1 q2)]; exact hk
      · rw [hoth k (by rintro rfl; exact r1 hgO)]; exact hk
  have hpf : ∀ {τ t s : Nat} {xs : List V} {v : Value}, lookS S τ = some (.own t s) → τ ≠ σ → PfSl γ w τ t s xs v → PfSl γ w' τ t s xs v := fun {τ t s xs v} q1 q2 q3 => by
    rcases q3 with q3 | ⟨k, cp, c2, e2, r1, r2, r3, r4⟩
    · exact .inl q3
    · exact .inr ⟨k, cp, c2, e2, r1, by rw [hoth k (hspn τ t s k q1 r3 q2)]; exact r2, r3, r4⟩
  refine ⟨?_, fun _ _ => trivial⟩
  have hsl : ∀ {s : V} {v : Value}, (∃ sz xs, s = .sl none sz xs) ∨ (∃ τ sz xs, τ ≠ σ ∧ s = .sl (some τ) sz xs) ∨ (∃ τ t sz xs, τ ≠ σ ∧ s = .vw τ t sz xs) → VRel S γ w s v → VRel S γ w' s v := fun {s v} hc h => by
    rcases hc with ⟨sz', xs, rfl⟩ | ⟨τ, sz', xs, hne, rfl⟩ | ⟨τ, t, sz', xs, hne, rfl⟩
    · cases h with | base h => exact .base (h.mono hkeep)
    · cases h with
      | base h => cases h
      | own q1 q2 => exact .own q1 (hown q1 hne q2)
      | imm q1 q2 => exact .imm q1 (q2.mono hkeep)
      | dead q1 q2 => exact .dead q1 q2
    · cases h with
      | base h => cases h
      | vown q1 q2 q3 q4 => exact .vown q1 (hown q1 hne q2) q3 (fun q => hpf q1 hne (q4 q))
      | vimm q1 q2 => exact .vimm q1 (q2.mono hkeep)
      | vdead q1 q2 => exact .vdead q1 q2
  cases x with
  | undef => exact .base (.undef _)
  | bool b => obtain rfl := h.bool_inv; exact .base (.bool _)
  | int k m => obtain rfl := h.int_inv; exact .base (.int _ _)
  | str l => obtain ⟨s, rfl, q⟩ := h.str_inv; exact .base (.str _ _ q)
  | nils => obtain rfl := h.nils_inv; exact .base .nils
  | nilp => obtain rfl := h.nilp_inv; exact .nilp
  | ptr d off => obtain ⟨k, rfl, q⟩ := h.ptr_inv; exact .ptr q
  | agg ds => exact .base (.undef _)
  | tup vs =>
    cases vs with
    | nil => obtain rfl := h.tup0_inv; exact .skip
    | cons _ _ => exact .base (.undef _)
  | fn f cap => exact .base (.undef _)
  | sl τ sz' xs =>
    cases τ with
    | none => exact hsl (.inl ⟨_, _, rfl⟩) h
    | some τ =>
      simp only [V.wr1]
      by_cases e1 : τ = σ
      · subst e1
        rw [if_pos rfl]
        by_cases e2 : xs.length = top
        · rw [if_pos e2]
          cases h with
          | base h => cases h
          | own q1 q2 =>
            rw [hs] at q1
            cases q1
            exact .own hs (hfull xs v e2 q2)
          | imm q1 _ => rw [hs] at q1; cases q1
          | dead q1 _ => rw [hs] at q1; cases q1
        · rw [if_neg e2]; exact .base (.undef _)
      · rw [if_neg e1]; exact hsl (.inr (.inl ⟨_, _, _, e1, rfl⟩)) h
  | nilb d t =>
    cases h with
    | base h => cases h
    | @nilb _ _ k q1 q2 =>
      refine .nilb q1 ?_
      obtain ⟨c2, fr, q3⟩ := q2
      by_cases e1 : k = g
      · subst e1
        rw [hg] at q3
        cases q3
        exact ⟨_, _, hg'⟩
      · exact ⟨c2, fr, by rw [hoth k e1]; exact q3⟩
  | bb e2 τ l =>
    simp only [V.wr1]
    by_cases e1 : τ = σ
    · rw [if_pos e1]; exact .base (.undef _)
    · rw [if_neg e1]
      cases h with
      | base h => cases h
      | bb hi q1 q2 =>
        refine .bb hi q1 (fun t z q => ?_)
        obtain ⟨r1, r2⟩ := q2 t z q
        refine ⟨r1, fun r3 => ?_⟩
        rcases r2 r3 with r4 | ⟨k, cp, c2, u1, u2, u3, u4⟩
        · exact .inl r4
        · exact .inr ⟨k, cp, c2, u1, u2, by rw [hoth k (hspn τ t z k (by rw [q1, q]) u2 e1)]; exact u3, u4⟩
  | vw τ t sz' xs =>
    simp only [V.wr1]
    by_cases e1 : τ = σ
    · rw [if_pos e1]; exact .base (.undef _)
    · rw [if_neg e1]; exact hsl (.inr (.inr ⟨_, _, _, _, e1, rfl⟩)) h
  | elp s p q =>
    have help : ∀ {s : V}, ((∃ sz xs, s = .sl none sz xs) ∨ (∃ τ sz xs, τ ≠ σ ∧ s = .sl (some τ) sz xs) ∨ (∃ τ t sz xs, τ ≠ σ ∧ s = .vw τ t sz xs)) → VRel S γ w (.elp s p q) v → VRel S γ w' (.elp s p q) v := fun {s} hc h => by
      cases h with
      | base h => cases h
      | elp s p q sz' xs g2 off nn cp h1 h2 h3 => exact .elp s p q sz' xs g2 off nn cp h1 (hsl hc h2) h3
    cases s with
    | sl τ sz' xs =>
      cases τ with
      | none => exact help (.inl ⟨_, _, rfl⟩) h
      | some τ =>
        simp only [V.wr1]
        by_cases e1 : τ = σ
        · rw [if_pos e1]; exact .base (.undef _)
        · rw [if_neg e1]; exact help (.inr (.inl ⟨_, _, _, e1, rfl⟩)) h
    | vw τ t sz' xs =>
      simp only [V.wr1]
      by_cases e1 : τ = σ
      · rw [if_pos e1]; exact .base (.undef _)
      · rw [if_neg e1]; exact help (.inr (.inr ⟨_, _, _, _, e1, rfl⟩)) h
    | _ => exact .base (.undef _)

theorem wrA_rel {S : Stats} {w' : World} {f : V → V} (hf : ∀ {x : V} {v : Value}, VRel S γ w x v → VRel S γ w' (f x) v) {x : V} {v : Value} (h : VRel S γ w x v) : VRel S γ w' (match x with
    | .agg ds => .agg (ds.map f)
    | v => f v) v := by
  cases x
  case agg ds =>
    obtain ⟨vs, rfl, hl, he⟩ := h.agg_inv
    refine .agg _ _ (by simpa using hl) (fun k h1 h2 => ?_)
    rw [List.getElem_map]
    exact hf (he k (by simpa using h1) h2)
  all_goals exact hf h

theorem wrT_rel {S : Stats} {w' : World} {f : V → V} (hf : ∀ {x : V} {v : Value}, VRel S γ w x v → VRel S γ w' (f x) v) {x : V} {v : Value} (h : VRel S γ w x v) : VRel S γ w' (match x with
    | .tup ds => .tup (ds.map f)
    | v => f v) v := by
  cases x
  case tup ds =>
    obtain ⟨vs, rfl, hl, he⟩ := h.tup_inv
    refine .tup _ _ (by simpa using hl) (fun k h1 h2 => ?_)
    rw [List.getElem_map]
    exact hf (he k (by simpa using h1) h2)
  all_goals exact hf h

theorem full_wr {w' : World} {σ top sz g i j : Nat} {e : TypeId} {c : Array Value} {cs : List V} {us0 : List Value} (hsp : γ.sp σ = some g) (hgO : γ.O g) (hg : w.heap[g]? = some (.cells c e (0, 0)))
    (hg' : w'.heap[g]? = some (.cells (setCells (i * sz + j) us0 c.toList).toArray e (0, 0))) (hoth : ∀ k, k ≠ g → w'.heap[k]? = w.heap[k]?) (hi : i < top) (hj : j + cs.length ≤ sz) (h0 : 0 < cs.length) (hcc : ∀ x ∈ cs, x.cells = [x])
    (hul : us0.length = cs.length) (hu1 : ∀ u ∈ us0, u.oneCell' = true) (hur : ∀ k (h1 : k < cs.length) (h2 : k < us0.length), PRel γ.O w cs[k] us0[k])
    (xs : List V) (v : Value) (htop : xs.length = top) (h : OwnSl γ w σ top sz true xs v) : OwnSl γ w' σ top sz true (setEl i j cs xs) v := by
  have hkeep : ∀ k o, ¬ γ.O k → w.heap[k]? = some o → ¬ γ.O k ∧ w'.heap[k]? = some o := fun k o h1 h2 => ⟨h1, by rw [hoth k (by rintro rfl; exact h1 hgO)]; exact h2⟩
  rcases h with ⟨rfl, rfl⟩ | ⟨g2, off, cap, c2, e2, fr, us, rfl, hg2, hcap, hmax, hsz, hlen, hus, h1, hel, hw⟩
  · simp at htop; omega
  rcases hw with ⟨r1, r2, r3⟩ | ⟨r1, r2⟩
  rotate_left
  · have := (r2 rfl).2; omega
  obtain ⟨s1, s2, s3, s4⟩ := r3 rfl
  subst s1
  subst s2
  rw [hsp] at r1
  obtain rfl := Option.some.inj r1
  rw [hg] at hg2
  cases hg2
  have hlf := length_flat hsz
  have hix : i < xs.length := by omega
  have hxi : xs.getD i .undef = xs[i] := by simp [List.getD_eq_getElem?_getD, hix]
  have hci : (xs[i]).cells.length = sz := hsz _ (List.getElem_mem _)
  have hb1 : (i + 1) * sz ≤ xs.length * sz := Nat.mul_le_mul_right _ hix
  have hb2 : (i + 1) * sz = i * sz + sz := by rw [Nat.add_mul]; omega
  have hwe : (wrEl j cs xs[i]).cells = setCells j cs xs[i].cells := by
    refine wrEl_cells (by omega) ?_
    by_cases q : ∃ ds, xs[i] = .agg ds
    · exact .inl q
    · refine .inr ⟨fun ds e => q ⟨ds, e⟩, ?_⟩
      have e1 : (xs[i]).cells.length = 1 := by
        revert q
        generalize xs[i] = y
        intro q
        cases y <;> first | rfl | exact absurd ⟨_, rfl⟩ q
      obtain ⟨x, hx⟩ := List.length_eq_one_iff.1 (show cs.length = 1 by omega)
      exact ⟨x, hx, hcc x (by rw [hx]; simp)⟩
  have hwl : (wrEl j cs xs[i]).cells.length = sz := by rw [hwe, setCells_length (by omega)]; exact hci
  have hfl : flat (setEl i j cs xs) = setCells (i * sz + j) cs (flat xs) := by
    refine List.ext_getElem? fun k => ?_
    unfold setEl
    rw [hxi, flat_set hsz hwl hix, setCells_get (by omega), hwe, setCells_get (by omega)]
    have hb3 : (flat xs)[k]? = if i * sz ≤ k ∧ k < i * sz + sz then (xs[i]).cells[k - i * sz]? else (flat xs)[k]? := by
      have := flat_set (ys := xs) (i := i) (z := xs[i]) hsz hci hix k
      rw [List.set_getElem_self] at this
      exact this
    by_cases q1 : i * sz ≤ k ∧ k < i * sz + sz
    · rw [if_pos q1]
      by_cases q2 : j ≤ k - i * sz ∧ k - i * sz < j + cs.length
      · rw [if_pos q2, if_pos (by omega)]
        congr 1; omega
      · rw [if_neg q2, if_neg (by omega), hb3, if_pos q1]
    · rw [if_neg q1, if_neg (by omega)]
  have hlen' : (setEl i j cs xs).length = xs.length := by simp [setEl]
  refine .inr ⟨g, 0, cap, _, e, (0, 0), setCells (i * sz + j) us0 us, by rw [hlen'], hg', by omega, hmax, fun x hx => ?_, ?_, fun k hk => ?_, fun u hu => ?_, fun k hk hk' => ?_, .inl ⟨hsp, by rw [hlen']; exact r2, fun _ => ⟨rfl, rfl, ?_, by omega⟩⟩⟩
  · unfold setEl at hx
    rcases List.mem_or_eq_of_mem_set hx with hx | rfl
    · exact hsz x hx
    · rw [hxi]; exact hwl
  · rw [hfl, setCells_length (by omega), setCells_length (by omega)]; exact hlen
  · rw [setCells_length (by omega)] at hk
    have hc1 : c.toList.length = c.size := by simp
    rw [Nat.zero_add, List.getElem?_toArray, setCells_get (by rw [hc1, s3, hul]; have := Nat.mul_le_mul_right sz hcap; omega), setCells_get (by omega)]
    split
    · rfl
    · have := hus k hk; simpa using this
  · have : u ∈ us ∨ u ∈ us0 := by
      unfold setCells at hu
      rcases List.mem_append.1 hu with hu | hu
      · rcases List.mem_append.1 hu with hu | hu
        · exact .inl (List.mem_of_mem_take hu)
        · exact .inr hu
      · exact .inl (List.mem_of_mem_drop hu)
    rcases this with q | q
    · exact h1 u q
    · exact hu1 u q
  · have hk2 := hk
    have e1 : (flat (setEl i j cs xs))[k]? = (setCells (i * sz + j) cs (flat xs))[k]? := by rw [hfl]
    rw [List.getElem?_eq_getElem hk, setCells_get (by omega)] at e1
    have e2 : (setCells (i * sz + j) us0 us)[k]? = _ := setCells_get (by omega)
    rw [List.getElem?_eq_getElem hk'] at e2
    rw [hul] at e2
    by_cases q : i * sz + j ≤ k ∧ k < i * sz + j + cs.length
    · rw [if_pos q] at e1 e2
      rw [List.getElem?_eq_getElem (show k - (i * sz + j) < cs.length by omega)] at e1
      rw [List.getElem?_eq_getElem (show k - (i * sz + j) < us0.length by omega)] at e2
      rw [Option.some.inj e1, Option.some.inj e2]
      exact (hur _ _ _).mono hkeep
    · rw [if_neg q] at e1 e2
      have q1 : k < (flat xs).length := by rw [hfl, setCells_length (by omega)] at hk; exact hk
      rw [List.getElem?_eq_getElem q1] at e1
      rw [List.getElem?_eq_getElem (show k < us.length by omega)] at e2
      rw [Option.some.inj e1, Option.some.inj e2]
      exact (hel k q1 _).mono hkeep
  · rw [← s3]; simp only [List.size_toArray]
    rw [setCells_length]
    · simp
    · have hc1 : c.toList.length = c.size := by simp
      rw [hc1, s3, hul]; have := Nat.mul_le_mul_right sz hcap; omega

theorem wr_undef {σ top i j : Nat} {cs : List V} : V.wr σ top i j cs .undef = .undef := rfl

/-- A STORE INTO AN ELEMENT OF A SLICE THAT IS OWNED. -/
theorem sound_elst (h : SRel L n K st γ a w) (hd : dst.ok L n) {t : TypeId} {A X : Operand} {y x : AX} {m : Nat} (hop : o.op = .store t A X) (hm : sizeT P t = some m) (hy : stripX L A = some y) (hx : stripX L X = some x)
    {σ sz i j : Nat} {xs : List V} (hY : st.val y = .elp (.sl (some σ) sz xs) i j) (hs : lookS st.stat σ = some (.own xs.length sz)) (hi : i < xs.length) (hj : j + m ≤ sz) (h0 : 0 < m) (hel : (st.val x).okEl = true)
    (hcl : (st.val x).cells.length = m) (hσ : σ ∉ (st.val x).stamps) (hal : aliveAll st.stat (st.val x).stamps) :
    Runs P L n K ((st.wr σ xs.length i j (st.val x).er.cells (st.val x).stamps).put dst .undef) dst.toOpt o a w := by
  have ry := stripX_rel h hy
  have rx := stripX_rel h hx
  obtain ⟨γ1, h1, ev1⟩ := demote h (aliveAll_mem hal)
  generalize hvx : st.val x = vx at *
  have rx1 := rx.evo ev1
  have ry1 := ry.evo ev1
  rw [hY] at ry1
  have hlk : ∀ τ ∈ vx.stamps, lookS (toImm vx.stamps ++ st.stat) τ = some .imm := fun τ q => by rw [lookS_toImm, if_pos q]
  have hs1 : lookS (toImm vx.stamps ++ st.stat) σ = some (.own xs.length sz) := by rw [lookS_toImm, if_neg hσ]; exact hs
  obtain ⟨c1, c2, c3⟩ := rx1.er hel hlk
  obtain ⟨sz', xs', g, off, nn, cap, e3, e4, e5, ev⟩ := ry1.elp_inv
  obtain ⟨rfl, rfl⟩ : sz = sz' ∧ xs = xs' := by
    rcases e3 with q | ⟨τ, q⟩ | ⟨τ, tt, q⟩
    · cases q
    · injection q with _ q1 q2; exact ⟨q1, q2⟩
    · cases q
  have hown : OwnSl γ1 w σ xs.length sz true xs (.slice (some ⟨g, off, none⟩) nn cap) := by
    cases e4 with
    | base q => cases q
    | own q1 q2 => rw [hs1] at q1; cases q1; exact q2
    | imm q1 _ => rw [hs1] at q1; cases q1
    | dead q1 _ => rw [hs1] at q1; cases q1
  rcases hown with ⟨q, _⟩ | ⟨g2, off2, cap2, c, e, fr, us, q, hg, hcap, hmax, hsz, hlen, hus, h1c, helx, hw⟩
  · cases q
  cases q
  rcases hw with ⟨r1, r2, r3⟩ | ⟨r1, r2⟩
  rotate_left
  · have := (r2 rfl).2; omega
  obtain ⟨s1, s2, s3, s4⟩ := r3 rfl
  subst s1
  subst s2
  have hgow : γ1.ow g = some (false, σ) := by
    rcases h1.h.sp σ _ _ hs1 with ⟨q1, _⟩ | ⟨g3, _, _, q1, q2, _⟩
    · rw [r1] at q1; cases q1
    · rw [r1] at q1
      obtain rfl := Option.some.inj q1
      exact q2
  have hgO : γ1.O g := .inl (by simp [hgow])
  have hb1 : (i + 1) * sz ≤ xs.length * sz := Nat.mul_le_mul_right _ hi
  have hb2 : (i + 1) * sz = i * sz + sz := by rw [Nat.add_mul]; omega
  have hb3 := Nat.mul_le_mul_right sz hcap
  have hel1 : vx.er.cells.length = m := by rw [V.er_cells]; simpa using hcl
  have hvm : (a.eval X).cells.size = m := by rw [c1]; exact hel1
  have hrun := storeVar_rel (P := P) hm hg (off := i * sz + j) (v := a.eval X) hvm c3 (by omega)
  have hc' : (c.toList.take (i * sz + j) ++ (a.eval X).cells.toList ++ c.toList.drop (i * sz + j + m)) = setCells (i * sz + j) (a.eval X).cells.toList c.toList := by
    unfold setCells; simp [hvm]
  rw [hc'] at hrun
  generalize hcc : (setCells (i * sz + j) (a.eval X).cells.toList c.toList).toArray = c' at hrun
  have hcs : c'.size = c.size := by
    rw [← hcc]; simp only [List.size_toArray]
    rw [setCells_length (by simp; omega)]; simp
  have hnew : (w.setRow g c').heap[g]? = some (.cells c' e (0, 0)) := setRow_heap w g c c' e (0, 0) hg
  have hoth : ∀ k, k ≠ g → (w.setRow g c').heap[k]? = w.heap[k]? := fun k hk => setRow_other w g k c' hk
  have hspn : ∀ τ t s k, lookS (toImm vx.stamps ++ st.stat) τ = some (.own t s) → γ1.sp τ = some k → τ ≠ σ → k ≠ g := fun τ t s k q1 q2 q3 => by
    rcases h1.h.sp τ t s q1 with ⟨q4, _⟩ | ⟨g3, _, _, q4, q5, _⟩
    · rw [q2] at q4; cases q4
    · rw [q2] at q4
      obtain rfl := Option.some.inj q4
      rintro rfl
      rw [hgow] at q5
      simp at q5
      exact q3 q5.symm
  have hflat : ∀ z ∈ vx.er.cells, z.cells = [z] := fun z hz => by
    rw [V.er_cells] at hz
    obtain ⟨u, hu, rfl⟩ := List.mem_map.1 hz
    have : u.cell1 = true := by
      cases vx <;> simp only [V.okEl, V.cells, List.all_eq_true, List.mem_singleton] at hel hu <;> first | exact hel _ hu | (rw [hu]; exact hel)
    cases u <;> simp [V.cell1] at this <;> rfl
  have hwr1 : ∀ {x : V} {v : Value}, VRel (toImm vx.stamps ++ st.stat) γ1 w x v → VRel (toImm vx.stamps ++ st.stat) γ1 (w.setRow g c') (x.wr1 σ xs.length i j vx.er.cells) v := fun hv =>
    (wr1_rel (cap := cap) (e := e) (c := c) (c' := c') hs1 r1 hg hnew hoth hgO hspn (by omega) (fun xs0 v0 q1 q2 => full_wr (us0 := (a.eval X).cells.toList) r1 hgO hg (by rw [hcc]; exact hnew) hoth hi (by omega) (by omega) hflat (by simp; omega)
      (fun u hu => c3 u (by simpa using hu)) (fun k q1 q2 => by have := c2 k q1 (by simpa using q2); simpa using this) xs0 v0 q1 q2) hv).1
  have hwrA : ∀ {x : V} {v : Value}, VRel (toImm vx.stamps ++ st.stat) γ1 w x v → VRel (toImm vx.stamps ++ st.stat) γ1 (w.setRow g c') (x.wrA σ xs.length i j vx.er.cells) v := fun {x v} hv => by
    have := wrA_rel (f := V.wr1 σ xs.length i j vx.er.cells) hwr1 hv
    cases x <;> exact this
  have hwr : ∀ {x : V} {v : Value}, VRel (toImm vx.stamps ++ st.stat) γ1 w x v → VRel (toImm vx.stamps ++ st.stat) γ1 (w.setRow g c') (x.wr σ xs.length i j vx.er.cells) v := fun {x v} hv => by
    have := wrT_rel (f := V.wrA σ xs.length i j vx.er.cells) hwrA hv
    cases x <;> exact this
  refine ⟨undef, w.setRow g c', γ1, .inr ⟨?_, rfl⟩, ?_⟩
  · have hst : (Instr.storeAt t (a.eval A) (a.eval X)).run P w = .ok () (w.setRow g c') := by
      rw [ev]; simp only [Nat.zero_add]; simp [Instr.storeAt, Instr.sureAddr, hrun]
    simp only [execOp, hop, Sem.run_bind, hst, Result.andThen]
    rfl
  · have hs2 : SRel L n K (st.wr σ xs.length i j vx.er.cells vx.stamps) γ1 a (w.setRow g c') := by
      refine ⟨⟨fun d cs hl => ?_, ⟨fun d k hk => ?_, h1.h.bxd.2⟩, fun τ tp s q => ?_, fun k z hk => ?_, ⟨h1.h.av.1, fun k hk => by rw [setRow_size]; exact h1.h.av.2 k hk⟩, setRow_frame h1.h.frame (h1.h.ow g _ hgow).2 c'⟩, h1.e.defers, h1.e.size, fun t => ?_⟩
      · have hl2 : (lookB st.box d).map (List.map (V.wr1 σ xs.length i j vx.er.cells)) = some cs := by rw [← lookB_map]; exact hl
        obtain ⟨ds, q1, rfl⟩ := Option.map_eq_some_iff.1 hl2
        obtain ⟨k, c3, e3, f1, f2, f3, f4, f5⟩ := h1.h.box d ds q1
        have hk : k ≠ g := by rintro rfl; rw [hgow] at f2; simp at f2
        exact ⟨k, c3, e3, f1, f2, by rw [hoth k hk]; exact f3, by simpa using f4, fun u q2 q3 => by rw [List.getElem_map]; exact hwr1 (f5 u (by simpa using q2) q3)⟩
      · have := h1.h.bxd.1 d k hk
        show (lookB (st.box.map _) d).isSome = true
        rw [lookB_map (f := List.map (V.wr1 σ xs.length i j vx.er.cells))]
        simpa using this
      · rcases h1.h.sp τ tp s q with f1 | ⟨k, c3, e3, f1, f2, f3, f4⟩
        · exact .inl f1
        · by_cases e0 : k = g
          · subst e0
            rw [hg] at f3
            cases f3
            exact .inr ⟨k, c', _, f1, f2, hnew, by rw [hcs]; exact f4⟩
          · exact .inr ⟨k, c3, e3, f1, f2, by rw [hoth k e0]; exact f3, f4⟩
      · have := h1.h.ow k z hk
        exact ⟨by rw [setRow_size]; exact this.1, this.2⟩
      · have hsl := hwr (h1.e.slot t)
        show VRel _ γ1 _ (if L t = true then look (st.loc.map _) t else look (st.env.map _) t) _
        rw [look_map wr_undef, look_map wr_undef]
        by_cases e0 : L t = true
        · rw [if_pos e0] at hsl ⊢; exact hsl
        · rw [if_neg e0] at hsl ⊢; exact hsl
    exact hs2.pure hd (.base (.undef _))

/-- A STORE INTO AN ELEMENT OF A SLICE THAT IS OWNED, told as a change: the block bears a new name, and the variable that holds the slice is told of it. -/
theorem sound_eld (h : SRel L n K st γ a w) (hd : dst.ok L n) {t : TypeId} {A X : Operand} {y x : AX} {m : Nat} (hop : o.op = .store t A X) (hm : sizeT P t = some m) (hy : stripX L A = some y) (hx : stripX L X = some x)
    {σ sz i j b l s : Nat} {xs cs0 : List V} (hY : st.val y = .elp (.sl (some σ) sz xs) i j) (hs : lookS st.stat σ = some (.own xs.length sz)) (hi : i < xs.length) (hj : j + m ≤ sz) (h0 : 0 < m) (hel : (st.val x).okEl = true)
    (hcl : (st.val x).cells.length = m) (hσ : (st.val x).stamps = []) (hb : lookB st.box b = some cs0) (hl : cs0[l]? = some (.sl (some σ) sz xs)) (hs2 : lookS st.stat s = none) :
    Runs P L n K (Delta.apply { val := .undef, nb := [(b, cs0.set l (.sl (some s) sz (setEl i j (st.val x).er.cells xs)))], ns := [(σ, some .dead), (s, some (.own xs.length sz))] } st dst) dst.toOpt o a w := by
  have ry := stripX_rel h hy
  have rx := stripX_rel h hx
  generalize hvx : st.val x = vx at *
  rw [hY] at ry
  obtain ⟨c1, c2, c3⟩ := rx.er hel (fun τ q => by rw [hσ] at q; cases q)
  obtain ⟨sz', xs', g, off, nn, cap, e3, e4, e5, ev⟩ := ry.elp_inv
  obtain ⟨rfl, rfl⟩ : sz = sz' ∧ xs = xs' := by
    rcases e3 with q | ⟨τ, q⟩ | ⟨τ, tt, q⟩
    · cases q
    · injection q with _ q1 q2; exact ⟨q1, q2⟩
    · cases q
  have hown : OwnSl γ w σ xs.length sz true xs (.slice (some ⟨g, off, none⟩) nn cap) := by
    cases e4 with
    | base q => cases q
    | own q1 q2 => rw [hs] at q1; cases q1; exact q2
    | imm q1 _ => rw [hs] at q1; cases q1
    | dead q1 _ => rw [hs] at q1; cases q1
  rcases hown with ⟨q, _⟩ | ⟨g2, off2, cap2, c, e, fr, us, q, hg, hcap, hmax, hsz, hlen, hus, h1c, helx, hw⟩
  · cases q
  cases q
  rcases hw with ⟨r1, r2, r3⟩ | ⟨r1, r2⟩
  rotate_left
  · have := (r2 rfl).2; omega
  obtain ⟨s1, s2, s3, s4⟩ := r3 rfl
  subst s1
  subst s2
  have hgow : γ.ow g = some (false, σ) := by
    rcases h.h.sp σ _ _ hs with ⟨q1, _⟩ | ⟨g3, _, _, q1, q2, _⟩
    · rw [r1] at q1; cases q1
    · rw [r1] at q1
      obtain rfl := Option.some.inj q1
      exact q2
  have hgO : γ.O g := .inl (by simp [hgow])
  have hb1 : (i + 1) * sz ≤ xs.length * sz := Nat.mul_le_mul_right _ hi
  have hb2 : (i + 1) * sz = i * sz + sz := by rw [Nat.add_mul]; omega
  have hb3 := Nat.mul_le_mul_right sz hcap
  have hel1 : vx.er.cells.length = m := by rw [V.er_cells]; simpa using hcl
  have hvm : (a.eval X).cells.size = m := by rw [c1]; exact hel1
  have hrun := storeVar_rel (P := P) hm hg (off := i * sz + j) (v := a.eval X) hvm c3 (by omega)
  have hc' : (c.toList.take (i * sz + j) ++ (a.eval X).cells.toList ++ c.toList.drop (i * sz + j + m)) = setCells (i * sz + j) (a.eval X).cells.toList c.toList := by
    unfold setCells; simp [hvm]
  rw [hc'] at hrun
  generalize hcc : (setCells (i * sz + j) (a.eval X).cells.toList c.toList).toArray = c' at hrun
  have hcs : c'.size = c.size := by
    rw [← hcc]; simp only [List.size_toArray]
    rw [setCells_length (by simp; omega)]; simp
  have hnew : (w.setRow g c').heap[g]? = some (.cells c' e (0, 0)) := setRow_heap w g c c' e (0, 0) hg
  have hoth : ∀ k, k ≠ g → (w.setRow g c').heap[k]? = w.heap[k]? := fun k hk => setRow_other w g k c' hk
  have hflat : ∀ z ∈ vx.er.cells, z.cells = [z] := fun z hz => by
    rw [V.er_cells] at hz
    obtain ⟨u, hu, rfl⟩ := List.mem_map.1 hz
    have : u.cell1 = true := by
      cases vx <;> simp only [V.okEl, V.cells, List.all_eq_true, List.mem_singleton] at hel hu <;> first | exact hel _ hu | (rw [hu]; exact hel)
    cases u <;> simp [V.cell1] at this <;> rfl
  have hne : ∀ τ x, lookS st.stat τ = some x → τ ≠ s := by rintro τ x hx rfl; rw [hs2] at hx; cases hx
  have hσs : σ ≠ s := hne _ _ hs
  let γ' : Ghost := { γ with sp := upd γ.sp s (some g), ow := upd γ.ow g (some (false, s)) }
  have hO : ∀ k, γ'.O k ↔ γ.O k := fun k => by
    by_cases e : k = g
    · subst e; simp [Ghost.O, γ', upd, hgow]
    · simp [Ghost.O, γ', upd, e]
  have hsp : ∀ τ tp sz' k, lookS st.stat τ = some (.own tp sz') → γ.sp τ = some k → τ ≠ σ → k ≠ g := by
    intro τ tp sz' k q1 q2 q3
    rcases h.h.sp τ tp sz' q1 with ⟨q4, _⟩ | ⟨g3, _, _, q4, q5, _⟩
    · rw [q2] at q4; cases q4
    · rw [q2] at q4
      obtain rfl := Option.some.inj q4
      rintro rfl
      rw [hgow] at q5
      simp at q5
      exact q3 q5.symm
  have ev2 : Evo st.stat γ w ([(σ, some .dead), (s, some (.own xs.length sz))] ++ st.stat) γ' (w.setRow g c') := by
    refine ⟨fun k ob h1 h2 => ⟨fun q => h1 ((hO k).1 q), ?_⟩, fun d g hd => hd, fun g t q => setRow_typ q, fun τ hq => ?_, fun τ hq => ?_, fun τ tp sz' hq => ?_⟩
    · rw [hoth k (by rintro rfl; exact h1 hgO)]; exact h2
    · by_cases e : τ = σ
      · simp [lookS, e]
      · simpa [lookS, hne _ _ hq, e] using hq
    · by_cases e : τ = σ
      · exact .inr (by simp [lookS, e])
      · exact .inl (by simpa [lookS, hne _ _ hq, e] using hq)
    · by_cases e : τ = σ
      · exact .inl (by simp [lookS, e])
      · exact .inr (.inr ⟨tp, by simpa [lookS, hne _ _ hq, e] using hq, Nat.le_refl _, fun k c2 e2 fr h2 h3 => .inl ⟨by simpa [γ', upd, hne _ _ hq] using h2, c2, by rw [hoth k (hsp τ tp sz' k hq h2 e)]; exact h3, rfl, fun _ _ => rfl⟩⟩)
  have hls : (setEl i j vx.er.cells xs).length = xs.length := by simp [setEl]
  have hren : ∀ v0, VRel st.stat γ w (.sl (some σ) sz xs) v0 → VRel ([(σ, some .dead), (s, some (.own xs.length sz))] ++ st.stat) γ' (w.setRow g c') (.sl (some s) sz (setEl i j vx.er.cells xs)) v0 := by
    intro v0 hv0
    have ho : OwnSl γ w σ xs.length sz true xs v0 := by
      cases hv0 with
      | base q => cases q
      | own q1 q2 => rw [hs] at q1; cases q1; exact q2
      | imm q1 _ => rw [hs] at q1; cases q1
      | dead q1 _ => rw [hs] at q1; cases q1
    have hf := full_wr (us0 := (a.eval X).cells.toList) r1 hgO hg (by rw [hcc]; exact hnew) hoth hi (by omega) (by omega) hflat (by simp; omega)
      (fun u hu => c3 u (by simpa using hu)) (fun k q1 q2 => by have := c2 k q1 (by simpa using q2); simpa using this) xs v0 rfl ho
    refine .own (top := xs.length) (by simp [lookS, Ne.symm hσs]) ?_
    rcases hf with ⟨_, q⟩ | ⟨g3, off3, cap3, c3', e3', fr3, us3, f1, f2, f3, f4, f5, f6, f7, f8, f9, f10⟩
    · rw [q] at hls; simp at hls; omega
    · rcases f10 with ⟨k1, k2, k3⟩ | ⟨k1, k2⟩
      · rw [r1] at k1
        obtain rfl := Option.some.inj k1
        exact .inr ⟨g, off3, cap3, c3', e3', fr3, us3, f1, f2, f3, f4, f5, f6, f7, f8, fun k q1 q2 => (f9 k q1 q2).mono fun g0 ob u1 u2 => ⟨fun q => u1 ((hO g0).1 q), u2⟩, .inl ⟨by simp [γ', upd], k2, k3⟩⟩
      · have := (k2 rfl).2; omega
  refine ⟨undef, w.setRow g c', γ', .inr ⟨?_, rfl⟩, h.step hd ev2 ?_ (.base (.undef _))⟩
  · have hst : (Instr.storeAt t (a.eval A) (a.eval X)).run P w = .ok () (w.setRow g c') := by
      rw [ev]; simp only [Nat.zero_add]; simp [Instr.storeAt, Instr.sureAddr, hrun]
    simp only [execOp, hop, Sem.run_bind, hst, Result.andThen]
    rfl
  · refine ⟨fun d cs' hlb => ?_, ⟨fun d k hk => ?_, h.h.bxd.2⟩, fun τ tp sz' hq => ?_, fun k x hk => ?_, ⟨h.h.av.1, fun k hk => ?_⟩, setRow_frame h.h.frame (h.h.ow g _ hgow).2 c'⟩
    · simp only [List.cons_append, List.nil_append, lookB] at hlb
      by_cases e0 : d = b
      · rw [if_pos e0] at hlb
        subst e0
        obtain rfl := Option.some.inj hlb
        obtain ⟨k, c2', e', f1, f2, f3, f4, f5⟩ := h.h.box d cs0 hb
        have hk : k ≠ g := by rintro rfl; rw [hgow] at f2; simp at f2
        refine ⟨k, c2', e', f1, by simpa [γ', upd, hk] using f2, by rw [hoth k hk]; exact f3, by simpa using f4, fun u q1 q2 => ?_⟩
        have q1' : u < cs0.length := by simpa using q1
        by_cases e1 : u = l
        · subst e1
          have hz : cs0[u] = .sl (some σ) sz xs := by
            rw [List.getElem?_eq_getElem q1'] at hl; exact Option.some.inj hl
          have := f5 u q1' q2
          rw [hz] at this
          rw [List.getElem_set_self]
          exact hren _ this
        · rw [List.getElem_set_ne (fun q => e1 q.symm)]
          exact (f5 u q1' q2).evo ev2
      · rw [if_neg e0] at hlb
        obtain ⟨k, c2', e', f1, f2, f3, f4, f5⟩ := h.h.box d cs' hlb
        have hk : k ≠ g := by rintro rfl; rw [hgow] at f2; simp at f2
        exact ⟨k, c2', e', f1, by simpa [γ', upd, hk] using f2, by rw [hoth k hk]; exact f3, f4, fun u q1 q2 => (f5 u q1 q2).evo ev2⟩
    · have := h.h.bxd.1 d k hk
      simp only [List.cons_append, List.nil_append, lookB]
      by_cases e0 : d = b
      · simp [e0]
      · rw [if_neg e0]; exact this
    · simp only [List.cons_append, List.nil_append, lookS] at hq
      by_cases e0 : τ = σ
      · rw [if_pos e0] at hq; cases hq
      · rw [if_neg e0] at hq
        by_cases e2 : τ = s
        · rw [if_pos e2] at hq
          cases hq
          refine .inr ⟨g, c', _, by simp [γ', upd, e2], by simp [γ', upd, e2], hnew, ?_⟩
          rw [hcs, s3]; exact Nat.mul_le_mul_right _ hcap
        · rw [if_neg e2] at hq
          rcases h.h.sp τ tp sz' hq with h1 | ⟨k, c2', e', h1, h2, h3, h4⟩
          · exact .inl (by simpa [γ', upd, e2] using h1)
          · have hk := hsp τ tp sz' k hq h1 e0
            exact .inr ⟨k, c2', e', by simpa [γ', upd, e2] using h1, by simpa [γ', upd, hk] using h2, by rw [hoth k hk]; exact h3, h4⟩
    · by_cases e0 : k = g
      · subst e0
        have := h.h.ow k _ hgow
        exact ⟨by rw [setRow_size]; exact this.1, this.2⟩
      · have := h.h.ow k x (by simpa [γ', upd, e0] using hk)
        exact ⟨by rw [setRow_size]; exact this.1, this.2⟩
    · have := h.h.av.2 k hk
      refine ⟨by rw [setRow_size]; exact this.1, ?_⟩
      have hk : k ≠ g := by rintro rfl; rw [hgow] at this; cases this.2
      simpa [γ', upd, hk] using this.2

end
end

end Go.Proofs.YtnhhcfbigjpfeaaDoor
