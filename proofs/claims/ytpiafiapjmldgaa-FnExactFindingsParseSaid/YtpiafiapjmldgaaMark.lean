/-
  A function that writes numbers into the findings of its caller's: how it walks, and what its caller sees of it.
-/
import Derived.Test.YtpiafiapjmldgaaSet
import Derived.Tactics
import Derived.Tactics2
import Derived.LoopTactic
import Derived.RegionTactic
import Derived.Lib.Hide
import Derived.Laws.CopyRow
namespace Go.Proofs.Ytpiafiapjmldgaa
open Go.RowKit Go.Lib
set_option linter.all false

theorem mark_walk (w : World) (g n cap : Nat) (c : Array Value) (e : TypeId) (m : Int) (hg : w.heap[g]? = some (.cells c e (0, 0))) (hn : n * 2 ≤ c.size) (hn2 : n ≤ 9223372036854775807) (h0 : 0 ≤ m) (h1 : m + 2 * n ≤ 9223372036854775807) :
    Calls Try.prog 9 #[.slice (some ⟨g, 0, none⟩) n cap, .int .i64 m] w fun e' w' =>
      e' = .returned (.int .i64 (m + 2 * n)) ∧ ∃ c', w' = w.setRow g c' ∧ c'.size = c.size ∧ ∀ k, k < 2 * n → c'[k]? = some (.int .i64 (m + k)) := by
  have HG := Lib.hid hg
  clear hg
  go_enter Try.func9, Try.ntmps9
  go_wp2
  go_loopw [1, 5] (fun vk vi wr => ∃ (i : Nat) (ci : Array Value), i ≤ n ∧ vk = .int .i64 (m + 2 * i) ∧ vi = .int .i64 i ∧ Hid (wr = w.setRow g ci) ∧ Hid (ci.size = c.size) ∧ Hid (∀ k, k < 2 * i → ci[k]? = some (.int .i64 (m + k)))) (fun _ vi _ => n - (intOf vi).toNat)
  case atStart => exact ⟨0, c, Nat.zero_le _, by simp, rfl, Lib.hid (setRow_self _ _ _ _ _ HG.out).symm, Lib.hid rfl, Lib.hid (fun k hk => by omega)⟩
  case round =>
    obtain ⟨i, ci, hi, rfl, rfl, HW, HS, HC⟩ := hrel
    have hgw : wr.heap[g]? = some (.cells ci e (0, 0)) := by rw [HW.out]; exact setRow_heap w g c ci e (0, 0) HG.out
    have HGW := Lib.hid hgw
    clear hgw
    by_cases hlt : i < n
    · have c0 : wr.cell? ⟨g, i * 2, none⟩ = some (ci.getD (i * 2) undef) := by
        have hs := HS.out
        simp only [World.cell?, HGW.out]
        rw [Array.getD_eq_getD_getElem?, Array.getElem?_eq_getElem (by omega)]
        rfl
      have c1 : wr.cell? ⟨g, i * 2 + 1, none⟩ = some (ci.getD (i * 2 + 1) undef) := by
        have hs := HS.out
        simp only [World.cell?, HGW.out]
        rw [Array.getD_eq_getD_getElem?, Array.getElem?_eq_getElem (by omega)]
        rfl
      have f0 : wr.frozen? ⟨g, i * 2, none⟩ = false := by simp [World.frozen?, HGW.out]
      have f1 : wr.frozen? ⟨g, i * 2 + 1, none⟩ = false := by simp [World.frozen?, HGW.out]
      go_wp2
      refine ⟨⟨i + 1, (ci.setIfInBounds (i * 2) (.int .i64 (m + 2 * i))).setIfInBounds (i * 2 + 1) (.int .i64 (m + 2 * i + 1)), hlt, ?_, by simp, Lib.hid ?_, Lib.hid (by simpa using HS.out), Lib.hid (fun k hk => ?_)⟩, ?_⟩
      · congr 1; omega
      · rw [setCell_eq_setRow wr g _ ci e (0, 0) _ HGW.out, setCell_eq_setRow _ g _ _ e (0, 0) _ (setRow_heap wr g ci _ e (0, 0) HGW.out), setRow_setRow, HW.out, setRow_setRow]
      · have hs := HS.out
        rw [Array.getElem?_setIfInBounds, Array.getElem?_setIfInBounds]
        by_cases e1 : i * 2 + 1 = k
        · rw [if_pos e1, if_pos (by simp; omega)]
          congr 2; omega
        · rw [if_neg e1]
          by_cases e2 : i * 2 = k
          · rw [if_pos e2, if_pos (by omega)]
            congr 2; omega
          · rw [if_neg e2]
            exact HC.out k (by omega)
      · simp [intOf]; omega
    · obtain rfl : i = n := by omega
      go_wp2
      go_ret
      exact ⟨rfl, ci, HW.out, HS.out, HC.out⟩

theorem mark_walk_nil (w : World) (m : Int) : Calls Try.prog 9 #[.slice none 0 0, .int .i64 m] w fun e' w' => e' = .returned (.int .i64 m) ∧ w' = w := by
  go_enter Try.func9, Try.ntmps9
  go_wp2
  go_loopw [1, 5] (fun vk vi wr => vk = .int .i64 m ∧ vi = .int .i64 0 ∧ Hid (wr = w)) (fun _ _ _ => 0)
  case atStart => exact ⟨rfl, rfl, Lib.hid rfl⟩
  case round =>
    obtain ⟨rfl, rfl, HW⟩ := hrel
    go_wp2
    go_ret
    exact ⟨rfl, HW.out⟩

/-- Findings that bear the numbers from 'm' on. -/
def markL : Nat → Int → List V
  | 0, _ => []
  | n + 1, m => .agg [.int .i64 m, .int .i64 (m + 1)] :: markL n (m + 2)

theorem markL_len : ∀ (n : Nat) (m : Int), (markL n m).length = n
  | 0, _ => rfl
  | n + 1, m => by simp [markL, markL_len n]

theorem markL_cells : ∀ (n : Nat) (m : Int), ∀ x ∈ markL n m, x.cells.length = 2
  | 0, _, x, h => by simp [markL] at h
  | n + 1, m, x, h => by
    rcases List.mem_cons.1 h with rfl | h
    · rfl
    · exact markL_cells n _ x h

theorem markL_flat : ∀ (n : Nat) (m : Int) (k : Nat) (h : k < (flat (markL n m)).length), (flat (markL n m))[k] = .int .i64 (m + k)
  | 0, _, k, h => by simp [markL, flat] at h
  | n + 1, m, k, h => by
    have h2 : flat (markL (n + 1) m) = .int .i64 m :: .int .i64 (m + 1) :: flat (markL n (m + 2)) := rfl
    simp only [h2] at h ⊢
    match k with
    | 0 => simp
    | 1 => simp
    | k + 2 =>
      simp only [List.getElem_cons_succ]
      rw [markL_flat n (m + 2) k (by simpa using h)]
      congr 1
      omega

def V.mk1 (σ top : Nat) (F : List V) : V → V
  | .sl (some τ) sz xs => if τ = σ then (if xs.length = top then .sl (some τ) sz F else .undef) else .sl (some τ) sz xs
  | .vw τ t sz xs => if τ = σ then .undef else .vw τ t sz xs
  | .bb e τ l => if τ = σ then .undef else .bb e τ l
  | .elp (.sl (some τ) sz xs) p q => if τ = σ then .undef else .elp (.sl (some τ) sz xs) p q
  | .elp (.vw τ t sz xs) p q => if τ = σ then .undef else .elp (.vw τ t sz xs) p q
  | .elp (.sl none sz xs) p q => .elp (.sl none sz xs) p q
  | .elp _ _ _ => .undef
  | .fn _ _ => .undef
  | .agg _ => .undef
  | .tup [] => .tup []
  | .tup _ => .undef
  | v => v

def V.mkA (σ top : Nat) (F : List V) : V → V
  | .agg ds => .agg (ds.map (V.mk1 σ top F))
  | v => v.mk1 σ top F

def V.mkT (σ top : Nat) (F : List V) : V → V
  | .tup vs => .tup (vs.map (V.mkA σ top F))
  | v => v.mkA σ top F

/-- The state behind: the slice of the stamp reads as 'F'. -/
def St.mk' (st : St) (σ top : Nat) (F : List V) : St :=
  { env := st.env.map fun (k, v) => (k, v.mkT σ top F), loc := st.loc.map fun (k, v) => (k, v.mkT σ top F),
    box := st.box.map fun (k, l) => (k, l.map (V.mk1 σ top F)), stat := st.stat }

theorem mk_undef {σ top : Nat} {F : List V} : V.mkT σ top F .undef = .undef := rfl

section
variable {P : Program} {L : Nat → Bool} {n : Nat} {K : Ctx} {st : St} {γ : Ghost} {a : Act} {w : World}

/-- What numbering the elements of a slice does to each value. -/
theorem mk1_rel {S : Stats} {w' : World} {σ top sz g : Nat} {e : TypeId} {c c' : Array Value} {F : List V} (hs : lookS S σ = some (.own top sz)) (hsp : γ.sp σ = some g) (hg : w.heap[g]? = some (.cells c e (0, 0)))
    (hg' : w'.heap[g]? = some (.cells c' e (0, 0))) (hoth : ∀ k, k ≠ g → w'.heap[k]? = w.heap[k]?) (hgO : γ.O g) (hspn : ∀ τ t s k, lookS S τ = some (.own t s) → γ.sp τ = some k → τ ≠ σ → k ≠ g)
    (hfull : ∀ (xs : List V) (v : Value), xs.length = top → OwnSl γ w σ top sz true xs v → OwnSl γ w' σ top sz true F v)
    {x : V} {v : Value} (h : VRel S γ w x v) : VRel S γ w' (x.mk1 σ top F) v ∧ (∀ cs', x = .agg cs' → True) := by
  have hkeep : ∀ k o, ¬ γ.O k → w.heap[k]? = some o → ¬ γ.O k ∧ w'.heap[k]? = some o := fun k o h1 h2 => ⟨h1, by rw [hoth k (by rintro rfl; exact h1 hgO)]; exact h2⟩
  have hown : ∀ {τ t s : Nat} {pre : Bool} {xs : List V} {v : Value}, lookS S τ = some (.own t s) → τ ≠ σ → OwnSl γ w τ t s pre xs v → OwnSl γ w' τ t s pre xs v := fun {τ t s pre xs v} q1 q2 q3 => by
    rcases q3 with q3 | ⟨k, off, cp, c2, e2, fr, us, ev, hk, hcap, hmax, hsz, hlen, hus, h1, hel, hw⟩
    · exact .inl q3
    · refine .inr ⟨k, off, cp, c2, e2, fr, us, ev, ?_, hcap, hmax, hsz, hlen, hus, h1, fun k h h' => (hel k h h').mono hkeep, hw⟩
      rcases hw with ⟨r1, _⟩ | ⟨r1, _⟩
      · rw [hoth k (hspn τ t s k q1 r1 q2)]; exact hk
      · rw [hoth k (by rintro rfl; exact r1 hgO)]; exact hk
  have hpf : ∀ {τ t s : Nat} {xs : List V} {v : Value}, lookS S τ = some (.own t s) → τ ≠ σ → PfSl γ w τ t s xs v → PfSl γ w' τ t s xs v := fun {τ t s xs v} q1 q2 q3 => by
    rcases q3 with q3 | ⟨k, cp, c2, e2, r1, r2, r3, r4⟩
    · exact .inl q3
    · exact .inr ⟨k, cp, c2, e2, r1, by rw [hoth k (hspn τ t s k q1 r3 q2)]; exact r2, r3, r4⟩
  refine ⟨?_, fun _ _ => trivial⟩
  have hsl : ∀ {s : V} {v : Value}, (∃ sz xs, s = .sl none sz xs) ∨ (∃ τ sz xs, τ ≠ σ ∧ s = .sl (some τ) sz xs) ∨ (∃ τ t sz xs, τ ≠ σ ∧ s = .vw τ t sz xs) → VRel S γ w s v → VRel S γ w' s v := fun {s v} hc h => by
    rcases hc with ⟨sz', xs, rfl⟩ | ⟨τ, sz', xs, hne, rfl⟩ | ⟨τ, t, sz', xs, hne, rfl⟩
    · cases h with | base h => exact .base (h.mono hkeep)
    · cases h with
      | base h => cases h
      | own q1 q2 => exact .own q1 (hown q1 hne q2)
      | imm q1 q2 => exact .imm q1 (q2.mono hkeep)
      | dead q1 q2 => exact .dead q1 q2
    · cases h with
      | base h => cases h
      | vown q1 q2 q3 q4 => exact .vown q1 (hown q1 hne q2) q3 (fun q => hpf q1 hne (q4 q))
      | vimm q1 q2 => exact .vimm q1 (q2.mono hkeep)
      | vdead q1 q2 => exact .vdead q1 q2
  cases x with
  | undef => exact .base (.undef _)
  | bool b => obtain rfl := h.bool_inv; exact .base (.bool _)
  | int k m => obtain rfl := h.int_inv; exact .base (.int _ _)
  | str l => obtain ⟨s, rfl, q⟩ := h.str_inv; exact .base (.str _ _ q)
  | nils => obtain rfl := h.nils_inv; exact .base .nils
  | nilp => obtain rfl := h.nilp_inv; exact .nilp
  | ptr d off => obtain ⟨k, rfl, q⟩ := h.ptr_inv; exact .ptr q
  | agg ds => exact .base (.undef _)
  | tup vs =>
    cases vs with
    | nil => obtain rfl := h.tup0_inv; exact .skip
    | cons _ _ => exact .base (.undef _)
  | fn f cap => exact .base (.undef _)
  | sl τ sz' xs =>
    cases τ with
    | none => exact hsl (.inl ⟨_, _, rfl⟩) h
    | some τ =>
      simp only [V.mk1]
      by_cases e1 : τ = σ
      · subst e1
        rw [if_pos rfl]
        by_cases e2 : xs.length = top
        · rw [if_pos e2]
          cases h with
          | base h => cases h
          | own q1 q2 =>
            rw [hs] at q1
            cases q1
            exact .own hs (hfull xs v e2 q2)
          | imm q1 _ => rw [hs] at q1; cases q1
          | dead q1 _ => rw [hs] at q1; cases q1
        · rw [if_neg e2]; exact .base (.undef _)
      · rw [if_neg e1]; exact hsl (.inr (.inl ⟨_, _, _, e1, rfl⟩)) h
  | nilb d t =>
    cases h with
    | base h => cases h
    | @nilb _ _ k q1 q2 =>
      refine .nilb q1 ?_
      obtain ⟨c2, fr, q3⟩ := q2
      by_cases e1 : k = g
      · subst e1
        rw [hg] at q3
        cases q3
        exact ⟨_, _, hg'⟩
      · exact ⟨c2, fr, by rw [hoth k e1]; exact q3⟩
  | bb e2 τ l =>
    simp only [V.mk1]
    by_cases e1 : τ = σ
    · rw [if_pos e1]; exact .base (.undef _)
    · rw [if_neg e1]
      cases h with
      | base h => cases h
      | bb hi q1 q2 =>
        refine .bb hi q1 (fun t z q => ?_)
        obtain ⟨r1, r2⟩ := q2 t z q
        refine ⟨r1, fun r3 => ?_⟩
        rcases r2 r3 with r4 | ⟨k, cp, c2, u1, u2, u3, u4⟩
        · exact .inl r4
        · exact .inr ⟨k, cp, c2, u1, u2, by rw [hoth k (hspn τ t z k (by rw [q1, q]) u2 e1)]; exact u3, u4⟩
  | vw τ t sz' xs =>
    simp only [V.mk1]
    by_cases e1 : τ = σ
    · rw [if_pos e1]; exact .base (.undef _)
    · rw [if_neg e1]; exact hsl (.inr (.inr ⟨_, _, _, _, e1, rfl⟩)) h
  | elp s p q =>
    have help : ∀ {s : V}, ((∃ sz xs, s = .sl none sz xs) ∨ (∃ τ sz xs, τ ≠ σ ∧ s = .sl (some τ) sz xs) ∨ (∃ τ t sz xs, τ ≠ σ ∧ s = .vw τ t sz xs)) → VRel S γ w (.elp s p q) v → VRel S γ w' (.elp s p q) v := fun {s} hc h => by
      cases h with
      | base h => cases h
      | elp s p q sz' xs g2 off nn cp h1 h2 h3 => exact .elp s p q sz' xs g2 off nn cp h1 (hsl hc h2) h3
    cases s with
    | sl τ sz' xs =>
      cases τ with
      | none => exact help (.inl ⟨_, _, rfl⟩) h
      | some τ =>
        simp only [V.mk1]
        by_cases e1 : τ = σ
        · rw [if_pos e1]; exact .base (.undef _)
        · rw [if_neg e1]; exact help (.inr (.inl ⟨_, _, _, e1, rfl⟩)) h
    | vw τ t sz' xs =>
      simp only [V.mk1]
      by_cases e1 : τ = σ
      · rw [if_pos e1]; exact .base (.undef _)
      · rw [if_neg e1]; exact help (.inr (.inr ⟨_, _, _, _, e1, rfl⟩)) h
    | _ => exact .base (.undef _)


theorem mk1_nil {S : Stats} {σ : Nat} {x : V} {v : Value} (h : VRel S γ w x v) : VRel S γ w (x.mk1 σ 0 []) v := by
  cases x with
  | sl τ sz xs =>
    cases τ with
    | none => exact h
    | some τ =>
      simp only [V.mk1]
      split
      · split
        · rename_i e
          obtain rfl := List.eq_nil_of_length_eq_zero e
          exact h
        · exact .base (.undef _)
      · exact h
  | vw τ t sz xs => simp only [V.mk1]; split <;> first | exact .base (.undef _) | exact h
  | bb e τ l => simp only [V.mk1]; split <;> first | exact .base (.undef _) | exact h
  | elp s p q =>
    cases s with
    | sl τ sz xs =>
      cases τ with
      | none => exact h
      | some τ => simp only [V.mk1]; split <;> first | exact .base (.undef _) | exact h
    | vw τ t sz xs => simp only [V.mk1]; split <;> first | exact .base (.undef _) | exact h
    | _ => exact .base (.undef _)
  | agg ds => exact .base (.undef _)
  | fn f cs => exact .base (.undef _)
  | tup vs =>
    cases vs with
    | nil => exact h
    | cons _ _ => exact .base (.undef _)
  | _ => exact h

theorem mkT_of {S : Stats} {w' : World} {σ top : Nat} {F : List V} (h1 : ∀ {x : V} {v : Value}, VRel S γ w x v → VRel S γ w' (x.mk1 σ top F) v) {x : V} {v : Value} (h : VRel S γ w x v) : VRel S γ w' (x.mkT σ top F) v := by
  have hA : ∀ {x : V} {v : Value}, VRel S γ w x v → VRel S γ w' (x.mkA σ top F) v := fun {x v} hv => by
    have := wrA_rel (f := V.mk1 σ top F) h1 hv
    cases x <;> exact this
  have := wrT_rel (f := V.mkA σ top F) hA h
  cases x <;> exact this

theorem mark_eff {σ : Nat} {xs : List V} {m : Int} (hs : lookS st.stat σ = some (.own xs.length 2)) (h0 : 0 ≤ m) (h1 : m + 2 * xs.length ≤ 9223372036854775807) :
    CallEff Try.prog fn_laws_markFindingS [.sl (some σ) 2 xs, .int .i64 m] st (.int .i64 (m + 2 * xs.length)) (st.mk' σ xs.length (markL xs.length m)) := by
  intro L n K γ a w vs hK h hl hv
  match vs, hl with
  | [v0, v1], _ =>
  have hv0 := hv 0 (by simp) (by simp)
  have hv1 := hv 1 (by simp) (by simp)
  simp only [List.getElem_cons_zero, List.getElem_cons_succ] at hv0 hv1
  obtain rfl := hv1.int_inv
  have hown : OwnSl γ w σ xs.length 2 true xs v0 := by
    cases hv0 with
    | base q => cases q
    | own q1 q2 => rw [hs] at q1; cases q1; exact q2
    | imm q1 _ => rw [hs] at q1; cases q1
    | dead q1 _ => rw [hs] at q1; cases q1
  rcases hown with ⟨rfl, rfl⟩ | ⟨g, off, cap, c, e, fr, us, rfl, hg, hcap, hmax, hsz, hlen, hus, h1c, helx, hw⟩
  · refine (mark_walk_nil w m).mono fun e' w' ⟨q1, q2⟩ => ?_
    subst q1
    subst q2
    refine ⟨_, rfl, γ, ⟨⟨fun d cs hl => ?_, ⟨fun d k hk => ?_, h.h.bxd.2⟩, h.h.sp, h.h.ow, h.h.av, h.h.frame⟩, h.e.defers, h.e.size, fun t => ?_⟩, by simpa using VRel.base (.int .i64 m)⟩
    · have hl2 : (lookB st.box d).map (List.map (V.mk1 σ 0 [])) = some cs := by rw [← lookB_map]; exact hl
      obtain ⟨ds, q1, rfl⟩ := Option.map_eq_some_iff.1 hl2
      obtain ⟨k, c3, e3, f1, f2, f3, f4, f5⟩ := h.h.box d ds q1
      exact ⟨k, c3, e3, f1, f2, f3, by simpa using f4, fun u q2 q3 => by rw [List.getElem_map]; exact mk1_nil (f5 u (by simpa using q2) q3)⟩
    · have := h.h.bxd.1 d k hk
      show (lookB (st.box.map fun (k, l) => (k, l.map (V.mk1 σ 0 []))) d).isSome = true
      rw [lookB_map (f := List.map (V.mk1 σ 0 []))]
      simpa using this
    · have hsl := mkT_of (σ := σ) (top := 0) (F := []) mk1_nil (h.e.slot t)
      show VRel _ γ _ (if L t = true then look (st.loc.map fun (k, v) => (k, v.mkT σ 0 [])) t else look (st.env.map fun (k, v) => (k, v.mkT σ 0 [])) t) _
      rw [look_map mk_undef, look_map mk_undef]
      by_cases e0 : L t = true
      · rw [if_pos e0] at hsl ⊢; exact hsl
      · rw [if_neg e0] at hsl ⊢; exact hsl
  rcases hw with ⟨r1, r2, r3⟩ | ⟨r1, r2⟩
  rotate_left
  · have := (r2 rfl).2; omega
  obtain ⟨s1, s2, s3, s4⟩ := r3 rfl
  subst s1
  subst s2
  have hgow : γ.ow g = some (false, σ) := by
    rcases h.h.sp σ _ _ hs with ⟨q1, _⟩ | ⟨g3, _, _, q1, q2, _⟩
    · rw [r1] at q1; cases q1
    · rw [r1] at q1
      obtain rfl := Option.some.inj q1
      exact q2
  have hgO : γ.O g := .inl (by simp [hgow])
  have hmx : xs.length ≤ 9223372036854775807 := by omega
  refine (mark_walk w g xs.length cap c e m hg (by omega) hmx h0 h1).mono fun e' w' ⟨q1, c', q2, hcs, hcv⟩ => ?_
  subst q1
  subst q2
  have hnew : (w.setRow g c').heap[g]? = some (.cells c' e (0, 0)) := setRow_heap w g c c' e (0, 0) hg
  have hoth : ∀ k, k ≠ g → (w.setRow g c').heap[k]? = w.heap[k]? := fun k hk => setRow_other w g k c' hk
  have hspn : ∀ τ t s k, lookS st.stat τ = some (.own t s) → γ.sp τ = some k → τ ≠ σ → k ≠ g := fun τ t s k q1 q2 q3 => by
    rcases h.h.sp τ t s q1 with ⟨q4, _⟩ | ⟨g3, _, _, q4, q5, _⟩
    · rw [q2] at q4; cases q4
    · rw [q2] at q4
      obtain rfl := Option.some.inj q4
      rintro rfl
      rw [hgow] at q5
      simp at q5
      exact q3 q5.symm
  have hlf : (flat (markL xs.length m)).length = 2 * xs.length := by rw [length_flat (markL_cells _ _), markL_len]; omega
  have hmk1 : ∀ {x : V} {v : Value}, VRel st.stat γ w x v → VRel st.stat γ (w.setRow g c') (x.mk1 σ xs.length (markL xs.length m)) v := fun hv =>
    (mk1_rel (e := e) (c := c) (c' := c') hs r1 hg hnew hoth hgO hspn (fun xs0 v0 q1 q2 => by
      rcases q2 with ⟨q3, q4⟩ | ⟨g2, off2, cap2, c2, e2, fr2, us2, q3, q4, q5, q6, q7, q8, q9, q10, q11, q12⟩
      · subst q4
        exact .inl ⟨q3, by rw [← q1]; rfl⟩
      · rcases q12 with ⟨u1, u2, u3⟩ | ⟨u1, u2⟩
        rotate_left
        · have := (u2 rfl).2; omega
        obtain ⟨t1, t2, t3, t4⟩ := u3 rfl
        subst t1
        subst t2
        rw [r1] at u1
        obtain rfl := Option.some.inj u1
        rw [hg] at q4
        cases q4
        refine .inr ⟨g, 0, cap2, c', e, (0, 0), (List.range (2 * xs.length)).map (fun k : Nat => Value.int .i64 (m + (k : Int))), by rw [markL_len, ← q1]; exact q3, hnew, by rw [markL_len, ← q1]; exact q5, q6, markL_cells _ _, by simp [hlf], fun k hk => ?_, fun u hu => ?_, fun k hk hk' => ?_, .inl ⟨r1, by rw [markL_len]; omega, fun _ => ⟨rfl, rfl, by rw [hcs]; exact t3, by rw [markL_len]; omega⟩⟩⟩
        · have hk2 : k < 2 * xs.length := by simpa using hk
          rw [Nat.zero_add, hcv k hk2]
          simp [hk2]
        · obtain ⟨k, _, rfl⟩ := List.mem_map.1 hu
          rfl
        · rw [markL_flat]
          simp only [List.getElem_map, List.getElem_range]
          exact .int _ _) hv).1
  have hmk : ∀ {x : V} {v : Value}, VRel st.stat γ w x v → VRel st.stat γ (w.setRow g c') (x.mkT σ xs.length (markL xs.length m)) v := fun hv => mkT_of hmk1 hv
  have hs2 : SRel L n K (st.mk' σ xs.length (markL xs.length m)) γ a (w.setRow g c') := by
    refine ⟨⟨fun d cs hl => ?_, ⟨fun d k hk => ?_, h.h.bxd.2⟩, fun τ tp s q => ?_, fun k z hk => ?_, ⟨h.h.av.1, fun k hk => by rw [setRow_size]; exact h.h.av.2 k hk⟩, setRow_frame h.h.frame (h.h.ow g _ hgow).2 c'⟩, h.e.defers, h.e.size, fun t => ?_⟩
    · have hl2 : (lookB st.box d).map (List.map (V.mk1 σ xs.length (markL xs.length m))) = some cs := by rw [← lookB_map]; exact hl
      obtain ⟨ds, q1, rfl⟩ := Option.map_eq_some_iff.1 hl2
      obtain ⟨k, c3, e3, f1, f2, f3, f4, f5⟩ := h.h.box d ds q1
      have hk : k ≠ g := by rintro rfl; rw [hgow] at f2; simp at f2
      exact ⟨k, c3, e3, f1, f2, by rw [hoth k hk]; exact f3, by simpa using f4, fun u q2 q3 => by rw [List.getElem_map]; exact hmk1 (f5 u (by simpa using q2) q3)⟩
    · have := h.h.bxd.1 d k hk
      show (lookB (st.box.map _) d).isSome = true
      rw [lookB_map (f := List.map (V.mk1 σ xs.length (markL xs.length m)))]
      simpa using this
    · rcases h.h.sp τ tp s q with f1 | ⟨k, c3, e3, f1, f2, f3, f4⟩
      · exact .inl f1
      · by_cases e0 : k = g
        · subst e0
          rw [hg] at f3
          cases f3
          exact .inr ⟨k, c', _, f1, f2, hnew, by rw [hcs]; exact f4⟩
        · exact .inr ⟨k, c3, e3, f1, f2, by rw [hoth k e0]; exact f3, f4⟩
    · have := h.h.ow k z hk
      exact ⟨by rw [setRow_size]; exact this.1, this.2⟩
    · have hsl := hmk (h.e.slot t)
      show VRel _ γ _ (if L t = true then look (st.loc.map _) t else look (st.env.map _) t) _
      rw [look_map mk_undef, look_map mk_undef]
      by_cases e0 : L t = true
      · rw [if_pos e0] at hsl ⊢; exact hsl
      · rw [if_neg e0] at hsl ⊢; exact hsl
  exact ⟨_, rfl, γ, hs2, .base (.int _ _)⟩

end
end Go.Proofs.Ytpiafiapjmldgaa
