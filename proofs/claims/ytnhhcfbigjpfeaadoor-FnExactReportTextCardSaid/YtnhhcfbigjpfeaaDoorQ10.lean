/-
  A call of a function that is known by its contract.
-/
import Derived.Test.YtnhhcfbigjpfeaaDoorQ09
namespace Go.Proofs.YtnhhcfbigjpfeaaDoor
set_option linter.all false

section

section
variable {P : Program} {L : Nat → Bool} {n : Nat} {K : Ctx} {st : St} {γ : Ghost} {a : Act} {w : World} {o : Oper} {dst : AD}

/-- The ghost with which a call begins. -/
def callG (M : Mp) (E : List Nat) (B : Bm) (γ : Ghost) : Ghost :=
  { bx := fun d => (lookN B d).bind γ.bx
    sp := fun k => match lookM M k with | some (some σ, _, _) => γ.sp σ | _ => none
    ow := (weakG M B γ).ow
    av := fun g => γ.O g ∧ (weakG M B γ).ow g = none ∧ ∀ σ ∈ E, newM M σ = none → γ.ow g ≠ some (false, σ) }

/-- The ghost behind a call. -/
def backG (M : Mp) (B BB : Bm) (d : Nat) (T : Stats) (γ γ' : Ghost) : Ghost :=
  { bx := fun b => match oldN BB b with
      | some n => γ'.bx n
      | none => γ.bx b
    sp := fun σ => if 16 * d ≤ σ ∧ (T.any fun x => x.1 == σ - 16 * d) = true then γ'.sp (σ - 16 * d) else γ.sp σ
    ow := fun g => match γ.ow g with
      | some (true, b) => some (true, b)
      | some (false, σ) => match γ'.ow g with
        | some (true, k) => some (true, renN BB k)
        | some (false, k) => some (false, 16 * d + k)
        | none => match newM M σ with
          | some _ => none
          | none => some (false, σ)
      | none => match γ'.ow g with
        | some (true, k) => some (true, renN BB k)
        | some (false, k) => some (false, 16 * d + k)
        | none => none
    av := γ.av }

/-- A CALL. 'M': the stamps that are handed over; 'B': the variables that are handed over; 'D': the stamps that are given up for reading; 'E': the stamps that are lent for reading. -/
theorem call_gen (hK : K.ok) (h : SRel L n K st γ a w) (hd : dst.ok L n) {f : FuncId} {xs : List V} {vs : List Value} {as : List V} {R : V} {bi bo : List (List V)} {M : Mp} {B : Bm} {D E : List Nat} {nn : Option Nat} {d : Nat}
    (hf : Fn P f as bi R bo) (hvl : vs.length = xs.length) (hv : ∀ k (h1 : k < xs.length) (h2 : k < vs.length), VRel st.stat γ w xs[k] vs[k])
    (hD : aliveAll st.stat D) (hM : okM (toImm D ++ st.stat) M) (hMs : ∀ k, lookS (statM M) k = lookS (argStat as bi) k) (hN : okN (withNew B d nn)) (hNB : okN B)
    (hx : relAs M (toImm D ++ st.stat) (some E) B xs as) (hb : okB M (toImm D ++ st.stat) (some E) st.box B (boxesOf bi)) (hb2 : hasB (boxesOf bi) B)
    (hE : E = [] ∨ noref R bo) (hR : R.okR = true) (hbo : bo.all (fun b => b.all V.okR1) = true) (hr1 : hasB (boxesOf bo) (withNew B d nn)) (hr2 : hasN (withNew B d nn) (boxesOf bo))
    (hnew : nn ≠ none → lookB st.box d = none) (hfr : freshAll d st.stat (resStat R bo)) :
    Calls P f vs.toArray w fun e w' => ∃ v, e = .returned v ∧ ∃ γ',
      SRel L n K (Delta.apply { val := R.ren (withNew B d nn) d, nb := renBoxes (withNew B d nn) d (boxesOf bo), ns := rsS d (resStat R bo) ++ (deadM M ++ toImm D) } st dst) γ' (a.put dst.toOpt v) w' := by
  obtain ⟨γ1, h1, ev1⟩ := demote h (aliveAll_mem hD)
  have hfm0 := freshAll_mem hfr
  generalize hS1 : toImm D ++ st.stat = S1 at hM hx hb h1 ev1
  generalize hTT : resStat R bo = T at hfm0 hfr
  generalize hBB : withNew B d nn = BB at hN hr1 hr2
  have hTown : ∀ k x, lookS T k = some x → ∃ t s, x = .own t s := fun k x hk => resStat_own (by rw [hTT]; exact hk)
  -- the stamps of the results are new
  have hfm : ∀ x ∈ T, x.1 < 16 ∧ lookS S1 (16 * d + x.1) = none := fun x hx => by
    refine ⟨(hfm0 x hx).1, ?_⟩
    rw [← hS1, lookS_toImm, if_neg]
    · exact (hfm0 x hx).2
    · intro hm
      have := aliveAll_mem hD _ hm
      simp [alive, (hfm0 x hx).2] at this
  -- the numbers of variables
  have hBn : ∀ m b, lookN B m = some b → 1000 ≤ m := fun m b hm => boxesFrom_lt (hasB_look hb2 hm)
  have hBBsub : ∀ m b, lookN B m = some b → lookN BB m = some b := fun m b hm => by
    rw [← hBB]
    cases nn with
    | none => exact hm
    | some q =>
      simp only [withNew, lookN]
      rw [← hBB] at hN
      simp only [withNew, okN] at hN
      have : m ≠ q := by rintro rfl; rw [hN.1] at hm; cases hm
      rw [if_neg this]; exact hm
  have hBBinv : ∀ m b, lookN BB m = some b → lookN B m = some b ∨ (b = d ∧ lookN B m = none ∧ lookB st.box d = none ∧ oldN B d = none) := fun m b hm => by
    rw [← hBB] at hm hN
    cases nn with
    | none => exact .inl hm
    | some q =>
      simp only [withNew, lookN] at hm
      simp only [withNew, okN] at hN
      by_cases e : m = q
      · rw [if_pos e] at hm
        exact .inr ⟨(Option.some.inj hm).symm, by rw [e]; exact hN.1, hnew (by simp), hN.2.1⟩
      · rw [if_neg e] at hm; exact .inl hm
  have hbx1 : ∀ b g, γ1.bx b = some g → (lookB st.box b).isSome = true := fun b g hg => h1.h.bxd.1 b g hg
  let γc := callG M E B γ1
  have hwO : ∀ g, (weakG M B γ1).ow g ≠ none → γ1.ow g ≠ none := fun g q e => q (by simp [weakG, e])
  have hcO : ∀ g, γc.O g → γ1.O g := fun g q => by
    rcases q with q | q
    · exact .inl (hwO g q)
    · exact q.1
  have hsz1 : ∀ g, γ1.O g → g < w.heap.size := fun g hg => by
    rcases hg with hg | hg
    · cases e : γ1.ow g with
      | none => exact absurd e hg
      | some x => exact (h1.h.ow g x e).1
    · exact (h1.h.av.2 g hg).1
  -- variables that are handed over
  have hcbox : ∀ m b g, lookN B m = some b → γ1.bx b = some g → γ1.ow g = some (true, b) ∧ γc.ow g = some (true, m) := fun m b g hm hg => by
    have hs := hbx1 b g hg
    obtain ⟨cs, hcs⟩ := Option.isSome_iff_exists.1 hs
    obtain ⟨g', c, e, q1, q2, q3, q4, q5⟩ := h1.h.box b cs hcs
    rw [hg] at q1
    obtain rfl := Option.some.inj q1
    exact ⟨q2, by simp [γc, callG, weakG, q2, lookN_old hNB hm, hg]⟩
  have hLess : Less S1 M (some E) B γ1 γc := by
    refine ⟨hcO, fun σ top sz g hs hl hk hg => ?_, fun k σ t s hl => by simp [γc, callG, hl], fun m b g q1 q2 => by simp [γc, callG, q1, q2]⟩
    have hσE : σ ∈ E := by simpa [lent, hs] using hl
    rcases h1.h.sp σ top sz hs with ⟨q1, _⟩ | ⟨g2, _, _, q1, q2, _⟩
    · rw [hg] at q1; cases q1
    · rw [hg] at q1
      obtain rfl := Option.some.inj q1
      rintro (q | q)
      · simp [γc, callG, weakG, q2, hk] at q
      · exact q.2.2 σ hσE hk q2
  have hcells : ∀ {cs ds : List V} {us : List Value}, relCs M S1 (some E) B cs ds → CellsRel S1 γ1 w cs us → CellsRel (argStat as bi) γc w ds us := fun hr hu => by
    obtain ⟨q1, q2⟩ := weak_cells hLess hM hr hu
    exact ⟨q1, fun k a1 a2 => (q2 k a1 a2).evo (.stat hMs _ _)⟩
  have hHc : HInv (.ofGhost w γc) (boxesOf bi) (argStat as bi) γc w := by
    refine ⟨fun m cs hl => ?_, ⟨fun m g hg => ?_, fun m g hg => ?_⟩, fun k t s hs => ?_, fun g x hg => ?_, ⟨rfl, fun g hg => ⟨hsz1 g hg.1, hg.2.1⟩⟩, ⟨rfl, rfl, rfl, Nat.le_refl _, fun g _ _ => rfl, fun g t h => h⟩⟩
    · obtain ⟨b, ds, q1, q2, q3⟩ := okB_look hb hl
      obtain ⟨g, c, e, r1, r2, r3, r4, r5⟩ := h1.h.box b ds q2
      obtain ⟨u1, u2⟩ := hcells (us := c.toList) q3 ⟨by simpa using r4, fun k a1 a2 => by simpa using r5 k a1 (by simpa using a2)⟩
      exact ⟨g, c, e, by simp [γc, callG, q1, r1], (hcbox m b g q1 r1).2, r3, by simpa using u1, fun k a1 a2 => by have := u2 k a1 (by simpa using a2); simpa only [Array.getElem_toList] using this⟩
    · simp only [γc, callG] at hg
      cases q : lookN B m with
      | none => rw [q] at hg; cases hg
      | some b => exact hasB_look hb2 q
    · simp only [Ctx.ofGhost] at hg
      split at hg
      · exact hg
      · cases hg
    · rw [← hMs, lookS_statM] at hs
      split at hs
      · rename_i o' t' s' hl
        cases hs
        rcases okM_look hM hl with ⟨τ, t0, rfl, q1, q2, q3⟩ | ⟨rfl, rfl⟩
        · rcases h1.h.sp τ t0 s q2 with ⟨r1, r2⟩ | ⟨g, c, e, r1, r2, r3, r4⟩
          · exact .inl ⟨by simp [γc, callG, hl, r1], by omega⟩
          · exact .inr ⟨g, c, e, by simp [γc, callG, hl, r1], by simp [γc, callG, weakG, r2, q1], r3, Nat.le_trans (Nat.mul_le_mul_right _ q3) r4⟩
        · exact .inl ⟨by simp [γc, callG, hl], rfl⟩
      · cases hs
    · have : γ1.ow g ≠ none := hwO g (by simp only [γc, callG] at hg; rw [hg]; simp)
      refine ⟨hsz1 g (.inl this), .inr ?_⟩
      simp only [Ctx.ofGhost]
      rw [hg]; simp
  have hcr : CellsRel (argStat as bi) γc w as vs := by
    obtain ⟨q1, q2⟩ := weak_As (γ := γ1) (w := w) (S := S1) hLess hM hx hvl (fun k q1 q2 => (hv k q1 q2).evo ev1)
    exact ⟨q1, fun k a1 a2 => (q2 k a1 a2).evo (.stat hMs _ _)⟩
  have hav1 : ∀ g, K.av g → γc.av g := fun g hg => by
    have hg1 : γ1.av g := by rw [h1.h.av.1]; exact hg
    have hn := (h1.h.av.2 g hg1).2
    exact ⟨.inr hg1, by simp [weakG, hn], fun σ _ _ => by rw [hn]; simp⟩
  have htb : Tb (γc.un w) w := hK.tb.mono (fun g hg => ⟨Nat.lt_of_lt_of_le hg.1 h1.h.frame.size, by
    cases q : γc.ow g with
    | none => rfl
    | some x =>
      have hne : γ1.ow g ≠ none := hwO g (by simp only [γc, callG] at q; rw [q]; simp)
      cases q2 : γ1.ow g with
      | none => exact absurd q2 hne
      | some y =>
        rcases (h1.h.ow g y q2).2 with q3 | q3
        · exact absurd q3 (by omega)
        · exact absurd q3 hg.2⟩) fun g hg => h1.h.frame.same g hg.1 hg.2
  refine (hf w γc vs htb hHc hcr).mono fun e w' hex => ?_
  obtain ⟨v, γ', rfl, hH', hvr⟩ := hex
  rw [hTT] at hH' hvr
  have hav : γ'.av = γc.av := hH'.av.1
  have hsame : ∀ g, g < w.heap.size → γc.ow g = none → w'.heap[g]? = w.heap[g]? := fun g hg hn => hH'.frame.same g hg (by simp [Ctx.ofGhost, hn])
  have hsize : w.heap.size ≤ w'.heap.size := hH'.frame.size
  have how' : ∀ g x, γ'.ow g = some x → w.heap.size ≤ g ∨ γc.ow g ≠ none := fun g x hg => (hH'.ow g x hg).2
  have havn : ∀ g, γc.av g → γ'.ow g = none := fun g hg => (hH'.av.2 g (by rw [hav]; exact hg)).2
  -- a variable that was handed over lies where it lay
  have hlens : ∀ m b g, lookN B m = some b → γ1.bx b = some g → γ'.bx m = some g := fun m b g hm hg => by
    refine hH'.bxd.2 m g ?_
    simp only [Ctx.ofGhost]
    rw [if_pos (hBn m b hm)]
    simp [γc, callG, hm, hg]
  have hbow : ∀ m g, γ'.bx m = some g → γ'.ow g = some (true, m) := fun m g hg => by
    obtain ⟨cs, hcs⟩ := Option.isSome_iff_exists.1 (hH'.bxd.1 m g hg)
    obtain ⟨g', c, e, q1, q2, _⟩ := hH'.box m cs hcs
    rw [hg] at q1
    obtain rfl := Option.some.inj q1
    exact q2
  -- a block that is a variable of the caller's stays one
  have hvar : ∀ g b, γ1.ow g = some (true, b) → (∃ m, lookN B m = some b ∧ γ'.ow g = some (true, m) ∧ γ1.bx b = some g) ∨ (γ'.ow g = none ∧ γc.av g) := fun g b hg => by
    have hnE : ∀ σ ∈ E, newM M σ = none → γ1.ow g ≠ some (false, σ) := fun σ _ _ => by rw [hg]; simp
    by_cases hbx : γ1.bx b = some g
    · cases e : oldN B b with
      | some m =>
        have hm := oldN_look hNB e
        exact .inl ⟨m, hm, hbow m g (hlens m b g hm hbx), hbx⟩
      | none =>
        have : γc.av g := ⟨.inl (by rw [hg]; simp), by simp [weakG, hg, e], hnE⟩
        exact .inr ⟨havn g this, this⟩
    · have : γc.av g := ⟨.inl (by rw [hg]; simp), by simp only [weakG, hg]; cases oldN B b <;> simp [hbx], hnE⟩
      exact .inr ⟨havn g this, this⟩
  let γ2 := backG M B BB d T γ1 γ'
  have hav2 : γ2.av = γ1.av := rfl
  have how2t : ∀ g m, γ'.ow g = some (true, m) → γ1.ow g = none ∨ (∃ σ, γ1.ow g = some (false, σ)) → γ2.ow g = some (true, renN BB m) := fun g m h1 h2 => by
    rcases h2 with h2 | ⟨σ, h2⟩ <;> simp [γ2, backG, h1, h2]
  have how2f : ∀ g k, γ'.ow g = some (false, k) → γ2.ow g = some (false, 16 * d + k) := fun g k hg => by
    cases e : γ1.ow g with
    | none => simp [γ2, backG, hg, e]
    | some x =>
      obtain ⟨c, q⟩ := x
      cases c with
      | false => simp [γ2, backG, hg, e]
      | true =>
        rcases hvar g q e with ⟨m, _, h2, _⟩ | ⟨h2, _⟩
        · rw [hg] at h2; cases h2
        · rw [hg] at h2; cases h2
  have how2b : ∀ g b, γ1.ow g = some (true, b) → γ2.ow g = some (true, b) := fun g b hg => by simp [γ2, backG, hg]
  have how2k : ∀ g σ, γ1.ow g = some (false, σ) → newM M σ = none → γ'.ow g = none ∧ γ2.ow g = some (false, σ) := fun g σ hg hk => by
    have hcn : γc.ow g = none := by simp [γc, callG, weakG, hg, hk]
    have : γ'.ow g = none := by
      cases e : γ'.ow g with
      | none => rfl
      | some x =>
        rcases how' g x e with q | q
        · have := hsz1 g (.inl (by rw [hg]; simp)); omega
        · exact absurd hcn q
    exact ⟨this, by simp [γ2, backG, hg, this, hk]⟩
  -- who owns a block behind the call
  have hO2 : ∀ g, γ2.O g ↔ γ'.O g ∨ ∃ σ ∈ E, newM M σ = none ∧ γ1.ow g = some (false, σ) := fun g => by
    constructor
    · rintro (q | q)
      · cases e : γ'.ow g with
        | some x => exact .inl (.inl (by rw [e]; simp))
        | none =>
          cases e1 : γ1.ow g with
          | none => exact absurd (by simp [γ2, backG, e, e1]) q
          | some x =>
            obtain ⟨c, y⟩ := x
            cases c with
            | true =>
              rcases hvar g y e1 with ⟨m, _, h2, _⟩ | ⟨_, h2⟩
              · rw [e] at h2; cases h2
              · exact .inl (.inr (by rw [hav]; exact h2))
            | false =>
              cases e2 : newM M y with
              | some k => exact absurd (by simp [γ2, backG, e, e1, e2]) q
              | none =>
                by_cases e3 : ∃ σ ∈ E, newM M σ = none ∧ γ1.ow g = some (false, σ)
                · rw [← e1]; exact .inr e3
                · refine .inl (.inr ?_)
                  rw [hav]
                  exact ⟨.inl (by rw [e1]; simp), by simp [weakG, e1, e2], fun σ h1 h2 h3 => e3 ⟨σ, h1, h2, h3⟩⟩
      · have hn := (h1.h.av.2 g q).2
        refine .inl (.inr ?_)
        rw [hav]
        exact ⟨.inr q, by simp [weakG, hn], fun σ _ _ => by rw [hn]; simp⟩
    · rintro (q | ⟨σ, _, q2, q3⟩)
      · rcases q with q | q
        · cases e : γ'.ow g with
          | none => exact absurd e q
          | some x =>
            obtain ⟨c, k⟩ := x
            cases c with
            | false => exact .inl (by rw [how2f g k e]; simp)
            | true =>
              refine .inl ?_
              cases e1 : γ1.ow g with
              | none => rw [how2t g k e (.inl e1)]; simp
              | some y =>
                obtain ⟨c, y⟩ := y
                cases c with
                | true => rw [how2b g y e1]; simp
                | false => rw [how2t g k e (.inr ⟨y, e1⟩)]; simp
        · rw [hav] at q
          obtain ⟨q1, q2, q3⟩ := q
          rcases q1 with q1 | q1
          · refine .inl ?_
            cases e1 : γ1.ow g with
            | none => exact absurd e1 q1
            | some y =>
              obtain ⟨c, y⟩ := y
              cases c with
              | true => rw [how2b g y e1]; simp
              | false =>
                have : newM M y = none := by
                  cases e2 : newM M y with
                  | none => rfl
                  | some k => simp [weakG, e1, e2] at q2
                rw [(how2k g y e1 this).2]; simp
          · exact .inr q1
      · exact .inl (by rw [(how2k g σ q3 q2).2]; simp)
  have hlookold : ∀ σ x, lookS S1 σ = some x → newM M σ = none → lookS (rsS d T ++ (deadM M ++ S1)) σ = some x := fun σ x hs hk => by
    rw [lookS_rsS_other]
    · rw [lookS_deadM, hk]; exact hs
    · intro y hy e
      rw [← e, (hfm y hy).2] at hs
      cases hs
  have hlookdead : ∀ σ k, newM M σ = some k → lookS (rsS d T ++ (deadM M ++ S1)) σ = some .dead := fun σ k hk => by
    obtain ⟨t, s, t0, _, q2, _⟩ := okM_new hM hk
    rw [lookS_rsS_other]
    · rw [lookS_deadM, hk]
    · intro y hy e
      rw [← e, (hfm y hy).2] at q2
      cases q2
  have hspold : ∀ σ x, lookS S1 σ = some x → γ2.sp σ = γ1.sp σ := fun σ x hs => by
    simp only [γ2, backG]
    rw [if_neg]
    rintro ⟨q1, q2⟩
    obtain ⟨y, hy, e⟩ := List.any_eq_true.1 q2
    have e' : y.1 = σ - 16 * d := by simpa using e
    have := (hfm y hy).2
    rw [e', show 16 * d + (σ - 16 * d) = σ from by omega] at this
    rw [this] at hs
    cases hs
  have hown1 : ∀ σ top sz g, lookS S1 σ = some (.own top sz) → γ1.sp σ = some g → γ1.ow g = some (false, σ) := fun σ top sz g hs hg => by
    rcases h1.h.sp σ top sz hs with ⟨q1, _⟩ | ⟨g', c, e, q1, q2, _⟩
    · rw [q1] at hg; cases hg
    · rw [q1] at hg
      obtain rfl := Option.some.inj hg
      exact q2
  have hsamef : ∀ g σ, γ1.ow g = some (false, σ) → newM M σ = none → w'.heap[g]? = w.heap[g]? := fun g σ hg hk =>
    hsame g (hsz1 g (.inl (by rw [hg]; simp))) (by simp [γc, callG, weakG, hg, hk])
  have hbx2 : ∀ b g, γ1.bx b = some g → γ2.bx b = some g := fun b g hg => by
    simp only [γ2, backG]
    cases e : oldN BB b with
    | none => exact hg
    | some m =>
      rcases hBBinv m b (oldN_look hN e) with q | ⟨rfl, _, q, _⟩
      · exact hlens m b g q hg
      · have := hbx1 _ g hg
        rw [q] at this; cases this
  have hnotO : ∀ g, ¬ γ1.O g → g < w.heap.size → ¬ γ2.O g ∧ w'.heap[g]? = w.heap[g]? := fun g hg hl => by
    have hcn : γc.ow g = none := by
      cases e : γc.ow g with
      | none => rfl
      | some x => exact absurd (hcO g (.inl (by rw [e]; simp))) hg
    refine ⟨?_, hsame g hl hcn⟩
    rw [hO2]
    rintro ((q | q) | ⟨σ, _, _, q⟩)
    · cases e : γ'.ow g with
      | none => exact q e
      | some x =>
        rcases how' g x e with r | r
        · omega
        · exact r hcn
    · rw [hav] at q; exact hg q.1
    · exact hg (.inl (by rw [q]; simp))
  have ev2 : Evo S1 γ1 w (rsS d T ++ (deadM M ++ S1)) γ2 w' := by
    refine ⟨fun g ob q1 q2 => ?_, hbx2, hH'.frame.typ, fun σ hs => ?_, fun σ hs => ?_, fun σ top sz hs => ?_⟩
    · obtain ⟨q3, q4⟩ := hnotO g q1 (Array.getElem?_eq_some_iff.1 q2).1
      exact ⟨q3, by rw [q4]; exact q2⟩
    · cases e : newM M σ with
      | none => exact hlookold σ _ hs e
      | some k => exact hlookdead σ k e
    · cases e : newM M σ with
      | none => exact .inl (hlookold σ _ hs e)
      | some k => exact .inr (hlookdead σ k e)
    · cases e : newM M σ with
      | some k => exact .inl (hlookdead σ k e)
      | none =>
        refine .inr (.inr ⟨top, hlookold σ _ hs e, Nat.le_refl _, fun g c t fr q1 q2 => .inl ⟨(hspold σ _ hs).trans q1, c, ?_, rfl, fun _ _ => rfl⟩⟩)
        rw [hsamef g σ (hown1 σ top sz g hs q1) e]; exact q2
  have hturn : Turn T (rsS d T ++ (deadM M ++ S1)) γ' γ2 BB d := by
    refine ⟨fun k t s hk => ?_, hTown, fun m g hg => ?_⟩
    · obtain ⟨y, hy, e⟩ := lookS_mem hk
      have hany : (T.any fun x => x.1 == k) = true := List.any_eq_true.2 ⟨y, hy, by simp [e]⟩
      refine ⟨?_, ?_⟩
      · rw [lookS_rsS d _ k T (fun x hx => (hfm x hx).1), if_pos hany]
        exact hk
      · simp only [γ2, backG]
        rw [Nat.add_sub_cancel_left, if_pos ⟨by omega, hany⟩]
    · have h5 := hasN_look hr2 (hH'.bxd.1 m g hg)
      obtain ⟨b, hb'⟩ := Option.isSome_iff_exists.1 h5
      simp only [γ2, backG, renN, hb', Option.getD_some]
      rw [lookN_old hN hb']
      exact hg
  have hnO : (∀ g, γ2.O g ↔ γ'.O g) ∨ noref R bo := or_map hE (fun e g => by rw [hO2, e]; simp) id
  have hfr : K.frame w' := by
    have hk := h1.h.frame
    have hk2 := hH'.frame
    refine ⟨hk2.os.trans hk.os, hk2.tape.trans hk.tape, hk2.output.trans hk.output, Nat.le_trans hk.size hsize, fun g hg hi => ?_, fun g t q => hk2.typ g t (hk.typ g t q)⟩
    rw [hsame g (Nat.lt_of_lt_of_le hg hk.size) ?_]
    · exact hk.same g hg hi
    · cases e : γc.ow g with
      | none => rfl
      | some x =>
        have hne := hwO g (by simp only [γc, callG] at e; rw [e]; simp)
        cases e2 : γ1.ow g with
        | none => exact absurd e2 hne
        | some y =>
          rcases (h1.h.ow g y e2).2 with q | q
          · omega
          · exact absurd q hi
  have hmay : ∀ g x, γ'.ow g = some x → g < w'.heap.size ∧ K.may g := fun g x hg => by
    refine ⟨(hH'.ow g x hg).1, ?_⟩
    rcases how' g x hg with q | q
    · exact .inl (Nat.le_trans h1.h.frame.size q)
    · have hne := hwO g q
      cases e2 : γ1.ow g with
      | none => exact absurd e2 hne
      | some y => exact (h1.h.ow g y e2).2
  refine ⟨v, rfl, γ2, ?_⟩
  have hfin : SRel L n K (Delta.apply { val := R.ren BB d, nb := renBoxes BB d (boxesOf bo), ns := rsS d T ++ deadM M } { st with stat := S1 } dst) γ2 (a.put dst.toOpt v) w' := by
    refine h1.step hd (by simpa using ev2) ?_ ?_
    · simp only [List.append_assoc]
      refine ⟨fun b cs hl => ?_, ⟨fun b g hg => ?_, fun b g hg => hbx2 b g (h1.h.bxd.2 b g hg)⟩, fun σ top sz hs => ?_, fun g x hg => ?_, ⟨h1.h.av.1, fun g hg => ?_⟩, hfr⟩
      · rcases lookB_ren hN hr2 hl with ⟨m, ds, q1, q2, rfl⟩ | ⟨q1, q2⟩
        · obtain ⟨g, c, e, r1, r2, r3, r4, r5⟩ := hH'.box m ds q2
          have hm := oldN_look hN q1
          have hnrs : (∀ g, γ2.O g ↔ γ'.O g) ∨ nrs T ds := or_map hnO id fun q => by
            have hall : ∀ {i : Nat} {bs : List (List V)}, nrB T bs → lookB (boxesFrom i bs) m = some ds → nrs T ds := by
              intro i bs
              induction bs generalizing i with
              | nil => intro _ hl; simp [boxesFrom, lookB] at hl
              | cons b0 r ih =>
                intro hnr hl
                simp only [boxesFrom, lookB] at hl
                by_cases e0 : m = i
                · rw [if_pos e0] at hl; cases hl; exact hnr.1
                · rw [if_neg e0] at hl; exact ih hnr.2 hl
            have := q.2
            rw [hTT] at this
            exact hall this q2
          have hokd : ds.all V.okR1 = true := by
            have hall : ∀ {i : Nat} {bs : List (List V)}, bs.all (fun b => b.all V.okR1) = true → lookB (boxesFrom i bs) m = some ds → ds.all V.okR1 = true := by
              intro i bs
              induction bs generalizing i with
              | nil => intro _ hl; simp [boxesFrom, lookB] at hl
              | cons b0 r ih =>
                intro hnr hl
                simp only [List.all_cons, Bool.and_eq_true] at hnr
                simp only [boxesFrom, lookB] at hl
                by_cases e0 : m = i
                · rw [if_pos e0] at hl; cases hl; exact hnr.1
                · rw [if_neg e0] at hl; exact ih hnr.2 hl
            exact hall hbo q2
          obtain ⟨u1, u2⟩ := ren1s_rel (vs := c.toList) hturn hnrs hokd ⟨by simpa using r4, fun k a1 a2 => by simpa using r5 k a1 (by simpa using a2)⟩
          refine ⟨g, c, e, by simp [γ2, backG, q1, r1], ?_, r3, by simpa using u1, fun k a1 a2 => by have := u2 k a1 (by simpa using a2); simpa only [Array.getElem_toList] using this⟩
          rcases hBBinv m b hm with hmB | ⟨rfl, hmB, hnone, hod⟩
          · -- a variable of the caller's
            obtain ⟨o', ds', t1, t2, t3⟩ : ∃ o' ds', lookN B m = some o' ∧ lookB st.box o' = some ds' ∧ True := by
              obtain ⟨ci, hci⟩ := Option.isSome_iff_exists.1 (hasB_look hb2 hmB)
              obtain ⟨o', ds', t1, t2, _⟩ := okB_look hb hci
              exact ⟨o', ds', t1, t2, trivial⟩
            rw [hmB] at t1
            obtain rfl := Option.some.inj t1
            obtain ⟨g1, c1, e1, p1, p2, p3, p4, p5⟩ := h1.h.box b ds' t2
            have := hlens m b g1 hmB p1
            rw [r1] at this
            obtain rfl := Option.some.inj this
            exact how2b _ b p2
          · -- a new one
            have hnb : γ1.ow g = none ∨ ∃ σ, γ1.ow g = some (false, σ) := by
              cases e1 : γ1.ow g with
              | none => exact .inl rfl
              | some y =>
                obtain ⟨cc, y⟩ := y
                cases cc with
                | false => exact .inr ⟨y, rfl⟩
                | true =>
                  rcases hvar g y e1 with ⟨m', t1, t2, t3⟩ | ⟨t2, _⟩
                  · rw [r2] at t2
                    cases t2
                    rw [hmB] at t1; cases t1
                  · rw [r2] at t2; cases t2
            rw [how2t g m r2 hnb]
            simp [renN, hm]
        · obtain ⟨g, c, e, r1, r2, r3, r4, r5⟩ := h1.h.box b cs q2
          have hnB : oldN B b = none := by
            cases e1 : oldN B b with
            | none => rfl
            | some m =>
              have hm := oldN_look hNB e1
              have h6 := q1 m (lookN_old hN (hBBsub m b hm))
              have h7 := hasB_look hr1 (hBBsub m b hm)
              rw [h6] at h7; cases h7
          have hcn : γc.ow g = none := by simp [γc, callG, weakG, r2, hnB]
          exact ⟨g, c, e, hbx2 b g r1, how2b g b r2, by rw [hsame g (Array.getElem?_eq_some_iff.1 r3).1 hcn]; exact r3, r4, fun k a1 a2 => (r5 k a1 a2).evo ev2⟩
      · refine lookB_ren_some ?_
        simp only [γ2, backG] at hg
        cases e : oldN BB b with
        | none => rw [e] at hg; exact .inr (hbx1 b g hg)
        | some m => exact .inl ⟨m, oldN_look hN e, hasB_look hr1 (oldN_look hN e)⟩
      · by_cases hn : ∃ y ∈ T, 16 * d + y.1 = σ
        · obtain ⟨y, hy, rfl⟩ := hn
          have hany : (T.any fun x => x.1 == y.1) = true := List.any_eq_true.2 ⟨y, hy, by simp⟩
          rw [lookS_rsS d _ y.1 T (fun x hx => (hfm x hx).1), if_pos hany] at hs
          have hsp := (hturn.s _ _ _ hs).2
          rcases hH'.sp _ _ _ hs with ⟨q1, q2⟩ | ⟨g, c, e, q1, q2, q3⟩
          · exact .inl ⟨hsp.trans q1, q2⟩
          · exact .inr ⟨g, c, e, hsp.trans q1, how2f g _ q2, q3⟩
        · rw [lookS_rsS_other d _ σ T (fun y hy e => hn ⟨y, hy, e⟩), lookS_deadM] at hs
          cases e1 : newM M σ with
          | some k => rw [e1] at hs; simp at hs
          | none =>
            rw [e1] at hs
            rcases h1.h.sp σ top sz hs with ⟨q1, q2⟩ | ⟨g, c, e, q1, q2, q3, q4⟩
            · exact .inl ⟨(hspold σ _ hs).trans q1, q2⟩
            · exact .inr ⟨g, c, e, (hspold σ _ hs).trans q1, (how2k g σ q2 e1).2, by rw [hsamef g σ q2 e1]; exact q3, q4⟩
      · cases e1 : γ1.ow g with
        | some y =>
          have := h1.h.ow g y e1
          exact ⟨Nat.lt_of_lt_of_le this.1 hsize, this.2⟩
        | none =>
          cases e2 : γ'.ow g with
          | none => simp [γ2, backG, e1, e2] at hg
          | some y => exact hmay g y e2
      · have := h1.h.av.2 g hg
        refine ⟨by omega, ?_⟩
        have hcav : γc.av g := ⟨.inr hg, by simp [weakG, this.2], fun σ _ _ => by rw [this.2]; simp⟩
        simp [γ2, backG, this.2, havn g hcav]
    · simp only [List.append_assoc]
      exact ren_rel hturn (or_map hnO id fun q => by have := q.1; rw [hTT] at this; exact this) hR hvr
  have hS2 : toImm D ++ st.stat = S1 := hS1
  simpa [Delta.apply, ← hS2] using hfin

end
end

end Go.Proofs.YtnhhcfbigjpfeaaDoor
