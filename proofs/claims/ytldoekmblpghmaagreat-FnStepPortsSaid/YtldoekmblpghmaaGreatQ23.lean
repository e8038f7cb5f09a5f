/-
  The laws of a step, in plain terms.
  Monitors, in plain terms: what a record does, and what it keeps.
-/
import Derived.Test.YtldoekmblpghmaaGreatQ22
import Derived.Test.YtldoekmblpghmaaGreatQ21
namespace Go.Proofs.YtldoekmblpghmaaGreat
set_option linter.all false

section
set_option maxRecDepth 20000
set_option maxHeartbeats 1000000
attribute [-simp] List.getD_eq_getElem?_getD

/-! ## A packet may come twice -/

def Same (byB : Bool) (c : Chunk) (r : Assoc × Int) : Prop := r.2 = 0 → r.1.state ≠ 7 → stepC r.1 byB c = (r.1, 0)

theorem same_self {x : Assoc} {byB : Bool} {c : Chunk} (h : stepC x byB c = (x, 0)) : Same byB c (x, 0) := fun _ _ => h
theorem same_bad {x : Assoc} {byB : Bool} {c : Chunk} {r : Int} (h : r ≠ 0) : Same byB c (x, r) := fun q _ => absurd q h

theorem stepC_hello {x : Assoc} {byB : Bool} {c : Chunk} (hk : c.kind = 1 ∨ c.kind = 2) : stepC x byB c = stepHello x byB c := by unfold stepC; rw [if_pos hk]
theorem stepC_part {x : Assoc} {byB : Bool} {c : Chunk} (hk : c.kind = 0) : stepC x byB c = stepPart x byB c := by unfold stepC; rw [if_neg (by omega), if_pos hk]
theorem stepC_sack {x : Assoc} {byB : Bool} {c : Chunk} (hk : c.kind = 3) : stepC x byB c = stepSack x byB c := by unfold stepC; rw [if_neg (by omega), if_neg (by omega), if_pos hk]
theorem stepC_end {x : Assoc} {byB : Bool} {c : Chunk} (hk : c.kind = 6 ∨ c.kind = 7 ∨ c.kind = 8 ∨ c.kind = 14) : stepC x byB c = stepEnd x byB c.kind := by unfold stepC; rw [if_neg (by omega), if_neg (by omega), if_neg (by omega), if_pos hk]
theorem stepC_cookie {x : Assoc} {byB : Bool} {c : Chunk} (h1 : ¬ (c.kind = 1 ∨ c.kind = 2)) (h2 : c.kind ≠ 0) (h3 : c.kind ≠ 3) (h4 : ¬ (c.kind = 6 ∨ c.kind = 7 ∨ c.kind = 8 ∨ c.kind = 14)) : stepC x byB c = stepCookie x byB c.kind := by unfold stepC; rw [if_neg h1, if_neg h2, if_neg h3, if_neg h4]

/-- What a part does, where parts may come. -/
theorem stepPart_eq (x : Assoc) (byB : Bool) (c : Chunk) {d : Part} (hg : getPart c = some d) {k : Nat} (hk : addS d.tsn (-(x.side byB).first) = k) (hm : (x.state = 4 ∨ (x.state = 3 ∧ byB = false)) ∨ (x.state = 5 ∧ byB ≠ x.byB)) :
    stepPart x byB c = ((
      if k < (x.side byB).sent.length then (x, if nth (x.side byB).sent k = d then 0 else 7) else
      if ¬ (x.state = 4 ∨ (x.state = 3 ∧ byB = false)) then (x, 3) else
      if d.stream ≥ (x.side byB).streams then (x, 5) else
      if k > (x.side byB).sent.length then (x, 6) else
      if followS (x.side byB).sent d = false then (x, 8) else
      if (x.side byB).sent.length ≥ 12 then (x, 11) else
      (x.with byB { x.side byB with sent := (x.side byB).sent ++ [d] }, 0)) : Assoc × Int) := by
  simp only [stepPart, hg, hk]
  rw [if_neg (fun q => q hm)]
  simp

theorem addS_nat (a b : Int) : ∃ k : Nat, addS a b = k := ⟨(addS a b).toNat, by unfold addS; omega⟩

theorem same_part {x : Assoc} (byB : Bool) (c : Chunk) (hk : c.kind = 0) : Same byB c (stepPart x byB c) := by
  intro h0 _
  rw [stepC_part hk]
  by_cases hm : (x.state = 4 ∨ (x.state = 3 ∧ byB = false)) ∨ (x.state = 5 ∧ byB ≠ x.byB)
  · cases hg : getPart c with
    | none =>
      have e : stepPart x byB c = (x, 4) := by simp only [stepPart, hg]; rw [if_neg (fun q => q hm)]
      rw [e] at h0; exact absurd h0 (by simp)
    | some d =>
      obtain ⟨k, hk2⟩ := addS_nat d.tsn (-(x.side byB).first)
      have e := stepPart_eq x byB c hg hk2 hm
      by_cases q1 : k < (x.side byB).sent.length
      · rw [if_pos q1] at e
        rw [e] at h0 ⊢
        simp only at h0 ⊢
        rw [e, h0]
      · rw [if_neg q1] at e
        by_cases q2 : ¬ (x.state = 4 ∨ (x.state = 3 ∧ byB = false))
        · rw [if_pos q2] at e; rw [e] at h0; exact absurd h0 (by simp)
        rw [if_neg q2] at e
        by_cases q3 : d.stream ≥ (x.side byB).streams
        · rw [if_pos q3] at e; rw [e] at h0; exact absurd h0 (by simp)
        rw [if_neg q3] at e
        by_cases q4 : k > (x.side byB).sent.length
        · rw [if_pos q4] at e; rw [e] at h0; exact absurd h0 (by simp)
        rw [if_neg q4] at e
        by_cases q5 : followS (x.side byB).sent d = false
        · rw [if_pos q5] at e; rw [e] at h0; exact absurd h0 (by simp)
        rw [if_neg q5] at e
        by_cases q6 : (x.side byB).sent.length ≥ 12
        · rw [if_pos q6] at e; rw [e] at h0; exact absurd h0 (by simp)
        rw [if_neg q6] at e
        rw [e]
        have hkl : k = (x.side byB).sent.length := by omega
        have hs : (x.with byB { x.side byB with sent := (x.side byB).sent ++ [d] }).side byB = { x.side byB with sent := (x.side byB).sent ++ [d] } := by cases byB <;> rfl
        have hst : (x.with byB { x.side byB with sent := (x.side byB).sent ++ [d] }).state = x.state := by cases byB <;> rfl
        have hw : (x.with byB { x.side byB with sent := (x.side byB).sent ++ [d] }).byB = x.byB := by cases byB <;> rfl
        have e2 := stepPart_eq (x.with byB { x.side byB with sent := (x.side byB).sent ++ [d] }) byB c hg (k := k) (by rw [hs]; exact hk2) (by rw [hst, hw]; exact hm)
        rw [e2, hs]
        simp only
        rw [if_pos (by simp; omega), hkl, nth_append_len, if_pos rfl]
  · have e : stepPart x byB c = (x, 3) := by simp only [stepPart]; rw [if_pos hm]
    rw [e] at h0; exact absurd h0 (by simp)

theorem with_other {x : Assoc} {byB : Bool} {s : Side} : (x.with (!byB) s).other byB = s ∧ (x.with (!byB) s).state = x.state := by cases byB <;> exact ⟨rfl, rfl⟩
theorem with_with {x : Assoc} {byB : Bool} {s t : Side} : (x.with byB s).with byB t = x.with byB t := by cases byB <;> rfl

theorem same_sack {x : Assoc} (byB : Bool) (c : Chunk) (hk : c.kind = 3) : Same byB c (stepSack x byB c) := by
  intro h0 _
  rw [stepC_sack hk]
  have e := stepSack_eq x byB c
  by_cases q0 : ¬ (4 ≤ x.state ∧ x.state ≤ 5)
  · rw [if_pos q0] at e; rw [e] at h0; exact absurd h0 (by simp)
  rw [if_neg q0] at e
  cases hg : getSack c with
  | none => rw [hg] at e; simp only at e; rw [e] at h0; exact absurd h0 (by simp)
  | some k =>
    rw [hg] at e
    simp only at e
    by_cases q1 : ¬ (0 ≤ diffS (addS (x.other byB).first (-1)) k.cum ∧ diffS (addS (x.other byB).first (-1)) k.cum ≤ (x.other byB).sent.length) ∨ mostG (diffS (addS (x.other byB).first (-1)) k.cum) k.gaps > (x.other byB).sent.length
    · rw [if_pos q1] at e; rw [e] at h0; exact absurd h0 (by simp)
    · rw [if_neg q1] at e
      rw [e]
      simp only
      have e2 := stepSack_eq (x.with (!byB) { x.other byB with acked := max (x.other byB).acked (diffS (addS (x.other byB).first (-1)) k.cum) }) byB c
      rw [with_other.1, with_other.2, if_neg q0, hg] at e2
      simp only at e2
      rw [if_neg q1, with_with] at e2
      rw [e2]
      have e3 : max (max (x.other byB).acked (diffS (addS (x.other byB).first (-1)) k.cum)) (diffS (addS (x.other byB).first (-1)) k.cum) = max (x.other byB).acked (diffS (addS (x.other byB).first (-1)) k.cum) := by omega
      rw [e3]

theorem same_hello {x : Assoc} (h : x.ok = true) (byB : Bool) (c : Chunk) (hk : c.kind = 1 ∨ c.kind = 2) : Same byB c (stepHello x byB c) := by
  intro h0 _
  have hy := stepHello_ok h byB c
  have hs := Assoc.ok_state h
  rw [stepC_hello hk]
  cases byB
  · have e := stepHello_F h hk
    have e2 := stepHello_F hy hk
    by_cases q0 : c.kind = 2
    · rw [if_pos q0] at e; rw [e] at h0; exact absurd h0 (by simp)
    rw [if_neg q0] at e
    rw [if_neg q0] at e2
    by_cases q1 : ¬ (0 ≤ x.state ∧ x.state ≤ 2)
    · rw [if_pos q1] at e; rw [e] at h0; exact absurd h0 (by simp)
    rw [if_neg q1] at e
    cases hg : getHello c with
    | none => rw [hg] at e; simp only at e; rw [e] at h0; exact absurd h0 (by simp)
    | some d =>
      rw [hg] at e e2
      simp only at e e2
      by_cases q2 : x.state = 0
      · rw [if_pos q2] at e
        rw [e] at e2 ⊢
        simp only at e2 ⊢
        rw [e2]; simp
      · rw [if_neg q2] at e
        by_cases q3 : d.tag ≠ x.a.tag ∨ d.streams ≠ x.a.streams ∨ d.tsn ≠ x.a.first
        · rw [if_pos q3] at e; rw [e] at h0; exact absurd h0 (by simp)
        · rw [if_neg q3] at e
          rw [e]; exact e
  · have e := stepHello_T h hk
    have e2 := stepHello_T hy hk
    by_cases q0 : ¬ c.kind = 2
    · rw [if_pos q0] at e; rw [e] at h0; exact absurd h0 (by simp)
    rw [if_neg q0] at e
    rw [if_neg q0] at e2
    by_cases q1 : ¬ (1 ≤ x.state ∧ x.state ≤ 2)
    · rw [if_pos q1] at e; rw [e] at h0; exact absurd h0 (by simp)
    rw [if_neg q1] at e
    cases hg : getHello c with
    | none => rw [hg] at e; simp only at e; rw [e] at h0; exact absurd h0 (by simp)
    | some d =>
      rw [hg] at e e2
      simp only at e e2
      by_cases q2 : x.state = 1
      · rw [if_pos q2] at e
        rw [e] at e2 ⊢
        simp only at e2 ⊢
        rw [e2]; simp
      · rw [if_neg q2] at e
        by_cases q3 : d.tag ≠ x.b.tag ∨ d.streams ≠ x.b.streams ∨ d.tsn ≠ x.b.first
        · rw [if_pos q3] at e; rw [e] at h0; exact absurd h0 (by simp)
        · rw [if_neg q3] at e
          rw [e]; exact e

theorem same_end {x : Assoc} (byB : Bool) (c : Chunk) (hk : c.kind = 6 ∨ c.kind = 7 ∨ c.kind = 8 ∨ c.kind = 14) : Same byB c (stepEnd x byB c.kind) := by
  intro h0 h7
  rw [stepC_end hk]
  obtain ⟨r, e⟩ : ∃ r, stepEnd x byB c.kind = r := ⟨_, rfl⟩
  generalize hK : c.kind = K at *
  unfold stepEnd at h0 h7 e ⊢
  simp only at h0 h7 e ⊢
  split at e
  · rename_i q; rw [if_pos q] at h7; exact absurd rfl h7
  split at e
  · rename_i q1 q2; rw [if_neg q1, if_pos q2] at h0; exact absurd h0 (by simp)
  split at e
  · rename_i q1 q2 q3
    rw [if_neg q1, if_neg q2, if_pos q3]
    simp only
    rw [if_neg (by omega), if_neg (by omega), if_neg (by omega), if_pos (by simp; omega)]
  split at e
  · rename_i q1 q2 q3 q4
    rw [if_neg q1, if_neg q2, if_neg q3, if_pos q4]
    simp only
    rw [if_neg q1, if_neg q2, if_neg q3, if_pos q4]
  split at e
  · rename_i q1 q2 q3 q4 q5; rw [if_neg q1, if_neg q2, if_neg q3, if_neg q4, if_pos q5] at h0; exact absurd h0 (by simp)
  split at e
  · rename_i q1 q2 q3 q4 q5 q6
    rw [if_neg q1, if_neg q2, if_neg q3, if_neg q4, if_neg q5, if_pos q6]
    simp only
    rw [if_neg (by omega), if_neg (by omega), if_neg (by omega), if_neg (by omega), if_neg (by omega), if_pos (by refine ⟨q6.1, by omega, q6.2.2⟩)]
  split at e
  · rename_i q1 q2 q3 q4 q5 q6 q7; rw [if_neg q1, if_neg q2, if_neg q3, if_neg q4, if_neg q5, if_neg q6, if_pos q7] at h7; exact absurd rfl h7
  · rename_i q1 q2 q3 q4 q5 q6 q7; rw [if_neg q1, if_neg q2, if_neg q3, if_neg q4, if_neg q5, if_neg q6, if_neg q7] at h0; exact absurd h0 (by simp)

theorem same_cookie {x : Assoc} (byB : Bool) (c : Chunk) (h1 : ¬ (c.kind = 1 ∨ c.kind = 2)) (h2 : c.kind ≠ 0) (h3 : c.kind ≠ 3) (h4 : ¬ (c.kind = 6 ∨ c.kind = 7 ∨ c.kind = 8 ∨ c.kind = 14)) : Same byB c (stepCookie x byB c.kind) := by
  intro h0 h7
  rw [stepC_cookie h1 h2 h3 h4]
  by_cases q1 : c.kind = 10 ∧ byB = false ∧ 2 ≤ x.state ∧ x.state ≤ 4
  · have e : stepCookie x byB c.kind = ({ x with state := max x.state 3 }, 0) := by unfold stepCookie; rw [if_pos q1]
    rw [e]
    unfold stepCookie
    simp only
    rw [if_pos (by refine ⟨q1.1, q1.2.1, by omega, by omega⟩)]
    have : max (max x.state 3) 3 = max x.state 3 := by omega
    rw [this]
  by_cases q2 : c.kind = 11 ∧ byB = true ∧ 3 ≤ x.state ∧ x.state ≤ 4
  · have e : stepCookie x byB c.kind = ({ x with state := 4 }, 0) := by unfold stepCookie; rw [if_neg q1, if_pos q2]
    rw [e]
    unfold stepCookie
    simp only
    rw [if_neg (by omega), if_pos (by refine ⟨q2.1, q2.2.1, by omega, by omega⟩)]
  by_cases q3 : (c.kind = 4 ∨ c.kind = 5 ∨ c.kind = 9) ∧ 3 ≤ x.state ∧ x.state ≤ 6
  · have e : stepCookie x byB c.kind = (x, 0) := by unfold stepCookie; rw [if_neg q1, if_neg q2, if_pos q3]
    rw [e]; exact e
  · have e : stepCookie x byB c.kind = (x, 3) := by unfold stepCookie; rw [if_neg q1, if_neg q2, if_neg q3]
    rw [e] at h0; exact absurd h0 (by simp)

theorem stepC_same {x : Assoc} (h : x.ok = true) (byB : Bool) (c : Chunk) : Same byB c (stepC x byB c) := by
  by_cases h1 : c.kind = 1 ∨ c.kind = 2
  · rw [stepC_hello h1]; exact same_hello h byB c h1
  by_cases h2 : c.kind = 0
  · rw [stepC_part h2]; exact same_part byB c h2
  by_cases h3 : c.kind = 3
  · rw [stepC_sack h3]; exact same_sack byB c h3
  by_cases h4 : c.kind = 6 ∨ c.kind = 7 ∨ c.kind = 8 ∨ c.kind = 14
  · rw [stepC_end h4]; exact same_end byB c h4
  · rw [stepC_cookie h1 h2 h3 h4]; exact same_cookie byB c h1 h2 h3 h4

theorem step_mine {x : Assoc} {p : Packet} (h : mineS x p = true) : mineS (stepS x p).1 p = true ∧ byBS (stepS x p).1 p = byBS x p := by
  have hk := stepS_keeps h
  obtain ⟨h1, h2, h3⟩ := mine_iff.1 h
  refine ⟨mine_iff.2 ⟨stepS_ok h, h2, ?_⟩, ?_⟩
  · rw [hk.src, hk.dst]; exact h3
  · unfold byBS; rw [hk.src, hk.dst]

theorem step_twice {x : Assoc} {p : Packet} (h : mineS x p = true) (hr : (stepS x p).2 = []) (hl : p.chunks.length ≤ 1) (h7 : (stepS x p).1.state ≠ 7) : stepS (stepS x p).1 p = ((stepS x p).1, []) := by
  obtain ⟨h1, h2, h3⟩ := mine_iff.1 h
  obtain ⟨k1, k2⟩ := step_mine h
  obtain ⟨c, hc⟩ : ∃ c, p.chunks = [c] := by
    have := (packet_ok.1 h2).2.2.2.2.2.1
    exact List.length_eq_one_iff.1 (by omega)
  have hk := stepS_keeps h
  have hrr := stepS_rules h
  have hf := stepS_fine h hr
  have ha := alone_one hc h2
  rw [hr] at hrr
  have htag : p.tag = tagS x (byBS x p) p := by
    rcases Classical.em (p.tag = tagS x (byBS x p) p) with q | q
    · exact q
    · have : (2 : Int) ∈ rulesS x (byBS x p) p := rules_mem.2 ⟨by decide, Or.inr (Or.inl ⟨rfl, q⟩)⟩
      rw [← hrr] at this; cases this
  have h0 : (stepC x (byBS x p) c).2 = 0 := by
    rw [rules_one hc ha htag] at hrr
    rcases Classical.em ((stepC x (byBS x p) c).2 = 0) with q | q
    · exact q
    · rw [if_neg q] at hrr; cases hrr
  rw [hc] at hf
  simp only [stepAll] at hf
  have hsame := stepC_same h1 (byBS x p) c h0 (by rw [← hf]; exact h7)
  rw [← hf] at hsame
  have htag2 : p.tag = tagS (stepS x p).1 (byBS x p) p := by
    rw [htag]; unfold tagS; rw [hk.tag]
  rw [stepS_mine k1, k2, rules_one hc ha htag2, hsame, hc]
  simp [stepAll, hsame]

/-! ## The other laws -/

theorem stepC_over {x : Assoc} (byB : Bool) (c : Chunk) (h : x.state = 7) : stepC x byB c = (x, 3) := by
  unfold stepC
  split
  · unfold stepHello; simp only; rw [if_pos ⟨by omega, by omega⟩]
  split
  · unfold stepPart; simp only; rw [if_pos (by omega)]
  split
  · rw [stepSack_eq, if_pos (by omega)]
  split
  · unfold stepEnd; simp only
    rw [if_neg (by omega), if_neg (by omega), if_neg (by omega), if_neg (by omega), if_neg (by omega), if_neg (by omega), if_neg (by omega)]
  · unfold stepCookie
    rw [if_neg (by omega), if_neg (by omega), if_neg (by omega)]

theorem stepAll_mem (byB : Bool) : ∀ (l : List Chunk) (x : Assoc) (r : List Int) (k : Int), k ∈ r → k ∈ (stepAll byB l x r).2
  | [], x, r, k, h => h
  | c :: l, x, r, k, h => stepAll_mem byB l _ _ k (List.mem_append_left _ h)

theorem step_over {x : Assoc} {p : Packet} (h : mineS x p = true) (h7 : x.state = 7) : (3 : Int) ∈ (stepS x p).2 := by
  rw [stepS_rules h]
  refine rules_mem.2 ⟨by decide, Or.inr (Or.inr ?_)⟩
  have hp := (packet_ok.1 (mine_iff.1 h).2.1).2.2.2.2.2.1
  cases hc : p.chunks with
  | nil => rw [hc] at hp; simp at hp
  | cons c l =>
    simp only [stepAll]
    refine stepAll_mem _ _ _ _ _ ?_
    rw [stepC_over _ c h7]; simp

theorem step_alone {x : Assoc} {p : Packet} (h : mineS x p = true) : (1 : Int) ∈ (stepS x p).2 ↔ p.alone = false := by
  rw [stepS_rules h, rules_mem]
  constructor
  · rintro ⟨_, h | h | h⟩
    · exact h.2
    · omega
    · have := stepAll_three (byBS x p) p.chunks x [] (by simp) 1 h
      omega
  · intro q; exact ⟨by decide, Or.inl ⟨rfl, q⟩⟩

theorem step_tag {x : Assoc} {p : Packet} (h : mineS x p = true) (hr : (stepS x p).2 = []) (t : Int) (ht : 0 ≤ t ∧ t ≤ 4294967295) (hne : t ≠ p.tag) : (stepS x { p with tag := t }).2 = [2] := by
  obtain ⟨h1, h2, h3⟩ := mine_iff.1 h
  have ho : ({ p with tag := t } : Packet).ok = true := by
    have := packet_ok.1 h2
    exact packet_ok.2 ⟨this.1, this.2.1, this.2.2.1, this.2.2.2.1, ht, this.2.2.2.2.2⟩
  have hm : mineS x { p with tag := t } = true := mine_iff.2 ⟨h1, ho, h3⟩
  have hb : byBS x { p with tag := t } = byBS x p := rfl
  rw [stepS_rules h] at hr
  rw [stepS_rules hm, hb]
  have hno : ∀ k, k ∉ rulesS x (byBS x p) p := by rw [hr]; simp
  have ha : p.alone = true := by
    cases q : p.alone
    · exact absurd (rules_mem.2 ⟨by decide, Or.inl ⟨rfl, q⟩⟩) (hno 1)
    · rfl
  have ha2 : ({ p with tag := t } : Packet).alone = true := by
    unfold Packet.alone at ha ⊢
    rw [ho]
    rw [h2] at ha
    exact ha
  have htag : p.tag = tagS x (byBS x p) p := by
    rcases Classical.em (p.tag = tagS x (byBS x p) p) with q | q
    · exact q
    · exact absurd (rules_mem.2 ⟨by decide, Or.inr (Or.inl ⟨rfl, q⟩)⟩) (hno 2)
  have htag2 : tagS x (byBS x p) { p with tag := t } = p.tag := by rw [htag]; rfl
  rw [rules_eq (q := fun k => decide (k = 2))]
  · rw [filter_one (by decide)]; rfl
  · intro k k1 k2
    rw [ha2, htag2]
    simp only [decide_eq_true_eq]
    constructor
    · rintro (q | q | q)
      · exact absurd q.2 (by decide)
      · exact q.1
      · exact absurd (rules_mem.2 ⟨⟨k1, k2⟩, Or.inr (Or.inr q)⟩) (hno k)
    · intro q; exact Or.inr (Or.inl ⟨q, hne⟩)

theorem step_ports {x : Assoc} {p : Packet} (s : Int) (hn : ¬ ((s = x.dst ∧ p.dst = x.src) ∨ (s = x.src ∧ p.dst = x.dst))) : stepS x { p with src := s } = (zAssoc, []) := by
  refine stepS_other ?_
  cases q : mineS x { p with src := s }
  · rfl
  · exact absurd (mine_iff.1 q).2.2 hn

theorem one_from {x : Assoc} (h : x.ok = true) (byB : Bool) {c : Chunk} (hc : c.ok = true) (hk : c.kind ≠ 1) {y : Assoc} {r : Int} (hs : stepC x byB c = (y, r)) (hr : r ≠ 0) : stepS x (fromS x byB c) = (x, [r]) := by
  rw [step_from h byB hc hk, hs, if_neg hr]
theorem fine_from {x : Assoc} (h : x.ok = true) (byB : Bool) {c : Chunk} (hc : c.ok = true) (hk : c.kind ≠ 1) {y : Assoc} (hs : stepC x byB c = (y, 0)) : stepS x (fromS x byB c) = (y, []) := by
  rw [step_from h byB hc hk, hs, if_pos rfl]

/-- What is known of an open association. -/
structure OpenA (x : Assoc) : Prop where
  ok : x.ok = true
  four : x.state = 4
  tag : x.a.tag ≠ 0
  streams : 1 ≤ x.a.streams ∧ x.a.streams ≤ 4
  first : 0 ≤ x.a.first ∧ x.a.first ≤ 65535
  len : x.a.sent.length ≤ 12
  acked : 0 ≤ x.a.acked ∧ x.a.acked ≤ x.a.sent.length
  parts : allTo (partAt x.a) x.a.sent.length = true

theorem OpenA.mk' {x : Assoc} (h : x.ok = true) (h4 : x.state = 4) : OpenA x := by
  have ht := (side_tag h false (by omega) (by omega)).1
  obtain ⟨q1, q2, q3, q4, q5, q6, q7⟩ := (side_iff ht).1 (Assoc.ok_side h false).1
  exact ⟨h, h4, ht, q3, q4, q5, ⟨q6, q7⟩, q1⟩

theorem addS_k {f : Int} {n : Nat} (hf : 0 ≤ f ∧ f ≤ 65535) (hn : n ≤ 1000) : addS (addS f n) (-f) = n := by unfold addS; omega
theorem addS_rng (a b : Int) : 0 ≤ addS a b ∧ addS a b ≤ 65535 := by unfold addS; omega

def newText : List UInt8 := [110, 101, 119]
def newPart (x : Assoc) (n : Nat) (stream ssn : Int) (loose : Bool) : Part := ⟨addS x.a.first n, stream, ssn, true, true, loose, newText⟩

theorem newPart_ok (x : Assoc) (n : Nat) {stream ssn : Int} (loose : Bool) (h1 : 0 ≤ stream ∧ stream ≤ 65535) (h2 : 0 ≤ ssn ∧ ssn ≤ 65535) : (newPart x n stream ssn loose).ok = true := by
  have := addS_rng x.a.first n
  have hi : ∀ n : Int, 0 ≤ n ∧ n ≤ 65535 → inS n = true := fun n hn => by simp [inS, inB]; omega
  simp only [newPart, Part.ok, hi _ this, hi _ h1, hi _ h2]
  rfl

theorem step_new {x : Assoc} (h : OpenA x) {n : Nat} (hn : n ≤ 13) {stream ssn : Int} {loose : Bool} {c : Chunk} (hg : getPart c = some (newPart x n stream ssn loose)) (hk : c.kind = 0) (hge : x.a.sent.length ≤ n) :
    stepC x false c = ((
      if stream ≥ x.a.streams then (x, 5) else
      if n > x.a.sent.length then (x, 6) else
      if followS x.a.sent (newPart x n stream ssn loose) = false then (x, 8) else
      if x.a.sent.length ≥ 12 then (x, 11) else
      ({ x with a := { x.a with sent := x.a.sent ++ [newPart x n stream ssn loose] } }, 0)) : Assoc × Int) := by
  rw [stepC_part hk, stepPart_eq x false c hg (k := n) (addS_k h.first (by omega)) (Or.inl (Or.inl h.four))]
  simp only [Assoc.side, Assoc.with]
  rw [if_neg (by simpa using hge)]
  simp [h.four, newPart]

theorem part_of {x : Assoc} (h : OpenA x) {j : Nat} (hj : j < x.a.sent.length) : (nth x.a.sent j).ok = true ∧ (nth x.a.sent j).tsn = addS x.a.first j := by
  have := allTo_iff.1 h.parts j hj
  simp only [partAt, Bool.and_eq_true, decide_eq_true_eq] at this
  exact ⟨this.1.1.1, this.1.1.2⟩

theorem step_again {x : Assoc} (h : OpenA x) {j : Nat} (hj : j < x.a.sent.length) {c : Chunk} {d : Part} (hg : getPart c = some d) (hk : c.kind = 0) (ht : d.tsn = addS x.a.first j) : stepC x false c = (x, if nth x.a.sent j = d then 0 else 7) := by
  have hl := h.len
  rw [stepC_part hk, stepPart_eq x false c hg (k := j) (by rw [ht]; exact addS_k h.first (by omega)) (Or.inl (Or.inl h.four))]
  simp only [Assoc.side, Bool.false_eq_true, if_false]
  rw [if_pos hj]

theorem follow_end {l : List Part} {d : Part} (h : l = [] ∨ (nth l (l.length - 1)).last = true) : followS l d = (d.first && (d.loose || decide (d.ssn = ssnN l d.stream))) := by
  rcases Classical.em (l = []) with q | q
  · subst q; rw [followS_nil]; rfl
  · rw [followS_ne q, if_pos (by rcases h with h | h; exact absurd h q; exact h)]

theorem follow_wrong {l : List Part} {d : Part} (hf : d.first = true) (hl : d.loose = false) (hs : d.ssn = 999) (hlen : l.length ≤ 12) : followS l d = false := by
  have h1 : ¬ d.ssn = (ssnN l d.stream : Nat) := by have := ssnN_le l d.stream; omega
  rcases Classical.em (l = []) with q | q
  · subst q; rw [followS_nil]; simp [hl, hs]
  · rw [followS_ne q]
    split
    · simp [hl, h1]
    · simp [hf]

theorem step_ack9 {x : Assoc} (h : OpenA x) {c : Chunk} (hk : c.kind = 3) (hg : getSack c = some ⟨addS x.a.first x.a.sent.length, []⟩) : stepC x true c = (x, 9) := by
  rw [stepC_sack hk, stepSack_eq, if_neg (by have := h.four; omega), hg]
  simp only [Assoc.other]
  have hf := h.first
  have hl := h.len
  have e : diffS (addS x.a.first (-1)) (addS x.a.first x.a.sent.length) = x.a.sent.length + 1 := by unfold diffS addS; split <;> omega
  simp only [if_true]
  rw [e, if_pos (by left; omega)]

theorem step_ack0 {x : Assoc} (h : OpenA x) {c : Chunk} (hk : c.kind = 3) (hg : getSack c = some ⟨addS x.a.first (x.a.sent.length - 1), []⟩) : stepC x true c = ({ x with a := { x.a with acked := x.a.sent.length } }, 0) := by
  rw [stepC_sack hk, stepSack_eq, if_neg (by have := h.four; omega), hg]
  simp only [Assoc.other]
  have hf := h.first
  have hl := h.len
  have ha := h.acked
  have e : diffS (addS x.a.first (-1)) (addS x.a.first (x.a.sent.length - 1)) = x.a.sent.length := by unfold diffS addS; split <;> omega
  simp only [if_true]
  rw [e, if_neg (by simp [mostG])]
  have e2 : max x.a.acked (x.a.sent.length : Int) = x.a.sent.length := by omega
  rw [e2]
  rfl

def shutC : Chunk := ⟨7, 0, []⟩
theorem step_shut {x : Assoc} (h : OpenA x) : stepC x false shutC = if x.a.acked = x.a.sent.length then ({ x with state := 5, byB := false }, 0) else (x, 10) := by
  have h4 := h.four
  rw [stepC_end (by decide)]
  unfold stepEnd
  simp only [shutC, Assoc.side]
  rw [if_neg (by omega)]
  by_cases q : x.a.acked = x.a.sent.length
  · rw [if_pos q, if_neg (by simp [q]), if_pos (by simp [h4])]
  · rw [if_neg q, if_pos (by simp [h4, q])]

/-! ## The beginning -/

def newA (s d : Int) : Assoc := ⟨s, d, 0, false, zSide, zSide⟩

theorem newA_ok {s d : Int} : (newA s d).ok = true ↔ (1 ≤ s ∧ s ≤ 65535) ∧ (1 ≤ d ∧ d ≤ 65535) ∧ s ≠ d := by
  rw [assoc_iff]
  constructor
  · rintro ⟨h1, h2, h3, -⟩; exact ⟨h1, h2, h3⟩
  · rintro ⟨h1, h2, h3⟩
    exact ⟨h1, h2, h3, by simp [newA], rfl, rfl, by simp [newA, zSide], by simp [newA, zSide], by simp [newA, zSide], by simp [newA]⟩

theorem step_begin {s d : Int} {x : Hello} {c : Chunk} (hm : mineS (newA s d) ⟨s, d, 0, [c]⟩ = true) (hk : c.kind = 1) (hg : getHello c = some x) : stepS (newA s d) ⟨s, d, 0, [c]⟩ = (⟨s, d, 1, false, ⟨x.tag, x.streams, x.tsn, [], 0⟩, zSide⟩, []) := by
  obtain ⟨h1, h2, h3⟩ := mine_iff.1 hm
  have hb : byBS (newA s d) ⟨s, d, 0, [c]⟩ = false := by
    have := (newA_ok.1 h1).2.2
    exact decide_eq_false fun e => this e.1
  have hc : stepC (newA s d) false c = (⟨s, d, 1, false, ⟨x.tag, x.streams, x.tsn, [], 0⟩, zSide⟩, 0) := by
    rw [stepC_hello (Or.inl hk), stepHello_F h1 (Or.inl hk), if_neg (by omega), if_neg (by simp [newA]), hg]
    simp only
    rw [if_pos (show (newA s d).state = 0 from rfl)]
    rfl
  have ht : (⟨s, d, 0, [c]⟩ : Packet).tag = tagS (newA s d) false ⟨s, d, 0, [c]⟩ := by
    unfold tagS; rw [if_pos (by simp [hk])]
  rw [stepS_mine hm, hb, rules_one (c := c) rfl (alone_one (c := c) rfl h2) ht, hc]
  simp [stepAll, hc]

/-! ## What was said -/

/-- The text before a part. -/
def keptT (d : Part) (t : List UInt8) : List UInt8 := if d.first then [] else t
def saidF : List Part → List UInt8 → List Msg
  | [], _ => []
  | d :: r, t => if d.last then ⟨d.stream, d.ssn, d.loose, keptT d t ++ d.text⟩ :: saidF r (keptT d t ++ d.text) else saidF r (keptT d t ++ d.text)

theorem saidF_prefix : ∀ (l r : List Part) (t : List UInt8), saidF l t <+: saidF (l ++ r) t
  | [], r, t => List.nil_prefix
  | d :: l, r, t => by
    simp only [List.cons_append, saidF]
    split
    · exact List.cons_prefix_cons.2 ⟨rfl, saidF_prefix l r _⟩
    · exact saidF_prefix l r _

def saidS (s : Side) : List Msg := if s.ok then saidF s.sent [] else []
def knownS (s : Side) : List Msg := if s.ok then saidF (s.sent.take s.acked.toNat) [] else []

theorem saidF_mono {l m : List Part} (h : l <+: m) : saidF l [] <+: saidF m [] := by
  obtain ⟨r, rfl⟩ := h
  exact saidF_prefix l r []

theorem take_prefix {α : Type} {l m : List α} (h : l <+: m) {i j : Nat} (hij : i ≤ j) (hi : i ≤ l.length) : l.take i <+: m.take j := by
  obtain ⟨r, rfl⟩ := h
  have e : l.take i = ((l ++ r).take j).take i := by
    rw [List.take_take, Nat.min_eq_left hij, List.take_append_of_le_length hi]
  rw [e]
  exact List.take_prefix _ _

theorem step_said {x y : Assoc} {byB : Bool} (hx : x.ok = true) (hy : y.ok = true) (h : Keeps x y byB) : saidS x.a <+: saidS y.a ∧ knownS x.b <+: knownS y.b := by
  have a1 := (Assoc.ok_side hx false).1
  have a2 := (Assoc.ok_side hy false).1
  have b1 := (Assoc.ok_side hx true).1
  have b2 := (Assoc.ok_side hy true).1
  simp only [Assoc.side] at a1 a2 b1 b2
  simp only [if_true] at b1 b2
  simp only [Bool.false_eq_true, if_false] at a1 a2
  unfold saidS knownS
  rw [if_pos a1, if_pos a2, if_pos b1, if_pos b2]
  refine ⟨saidF_mono h.asent, saidF_mono (take_prefix h.bsent ?_ ?_)⟩
  · have := h.ba; omega
  · have := (Side.ok_first b1).2.2; omega
end

section
set_option maxRecDepth 20000
set_option maxHeartbeats 1000000
attribute [-simp] List.getD_eq_getElem?_getD

theorem nth_append_left {α : Type} [Inhabited α] {l r : List α} {i : Nat} (h : i < l.length) : nth (l ++ r) i = nth l i := by
  rw [nth_eq (by simp; omega), nth_eq h, List.getElem_append_left h]
theorem nth_append_right {α : Type} [Inhabited α] {l r : List α} {j : Nat} (h : j < r.length) : nth (l ++ r) (l.length + j) = nth r j := by
  rw [nth_eq (by simp; omega), nth_eq h, List.getElem_append_right (by omega)]
  congr 1; omega

def Assoc.ports (x : Assoc) : Int × Int := (x.src, x.dst)
def meet (p q : Int × Int) : Bool := (decide (p.1 = q.1) && decide (p.2 = q.2)) || (decide (p.1 = q.2) && decide (p.2 = q.1))

theorem meet_comm (p q : Int × Int) : meet p q = meet q p := by
  rw [Bool.eq_iff_iff]; simp [meet]; omega
theorem meet_self (p : Int × Int) : meet p p = true := by simp [meet]

def listAt (l : List Assoc) (i : Nat) : Bool := (nth l i).ok && decide ((nth l i).state ≠ 0) && allTo (fun k => !meet (nth l k).ports (nth l i).ports) i
def Monitor.ok (m : Monitor) : Bool := allTo (listAt m.list) m.list.length && fsOk m.records m.found && inB m.records 0 60 && decide (m.list.length ≤ 3)

structure MonOk (m : Monitor) : Prop where
  recs : 0 ≤ m.records ∧ m.records ≤ 60
  len : m.list.length ≤ 3
  each : ∀ x ∈ m.list, x.ok = true ∧ x.state ≠ 0
  apart : (m.list.map Assoc.ports).Pairwise fun p q => meet p q = false
  found : fsOk m.records m.found = true

theorem mon_iff {m : Monitor} : m.ok = true ↔ MonOk m := by
  simp only [Monitor.ok, inB, Bool.and_eq_true, decide_eq_true_eq]
  constructor
  · rintro ⟨⟨⟨h1, h2⟩, h3⟩, h4⟩
    rw [allTo_iff] at h1
    refine ⟨h3, h4, fun x hx => ?_, ?_, h2⟩
    · obtain ⟨i, hi, rfl⟩ := List.getElem_of_mem hx
      have := h1 i hi
      simp only [listAt, Bool.and_eq_true, decide_eq_true_eq] at this
      rw [nth_eq hi] at this
      exact this.1
    · rw [List.pairwise_map, List.pairwise_iff_getElem]
      intro i j hi hj hij
      have := h1 j hj
      simp only [listAt, Bool.and_eq_true] at this
      have := allTo_iff.1 this.2 i hij
      rw [nth_eq hi, nth_eq hj] at this
      simpa using this
  · intro h
    refine ⟨⟨⟨?_, h.found⟩, h.recs⟩, h.len⟩
    rw [allTo_iff]
    intro j hj
    simp only [listAt, Bool.and_eq_true, decide_eq_true_eq]
    refine ⟨?_, allTo_iff.2 fun i hij => ?_⟩
    · rw [nth_eq hj]; exact h.each _ (List.getElem_mem _)
    · have hi : i < m.list.length := by omega
      have := h.apart
      rw [List.pairwise_map, List.pairwise_iff_getElem] at this
      have := this i j hi hj hij
      rw [nth_eq hi, nth_eq hj]
      simpa using this

def zMonitor : Monitor := ⟨0, [], []⟩
theorem zMonitor_ok : zMonitor.ok = true := by decide

/-- The place of the association between two ports. -/
def findM (l : List Assoc) (a b : Int) : Option Nat := l.findIdx? fun x => meet x.ports (a, b)

def restartS (l : List Assoc) (p : Packet) (i : Nat) : Bool := decide ((nth l i).state = 7) && decide ((nth p.chunks 0).kind = 1) && p.alone && decide (p.tag = 0) && (getHello (nth p.chunks 0)).isSome

/-- What a packet does with the associations, and what is told. -/
def beginL (l : List Assoc) (p : Packet) : List Assoc × List Int :=
  if (nth p.chunks 0).kind ≠ 1 then (l, [104]) else
  if (stepS (newA p.src p.dst) p).2 ≠ [] then (l, (stepS (newA p.src p.dst) p).2) else
  if 3 ≤ l.length then (l, [105]) else (l ++ [(stepS (newA p.src p.dst) p).1], [])

def packL (l : List Assoc) (p : Packet) : List Assoc × List Int :=
  match findM l p.src p.dst with
  | none => beginL l p
  | some i => if restartS l p i then beginL (l.eraseIdx i) p else (l.set i (stepS (nth l i) p).1, (stepS (nth l i) p).2)

def textL (l : List Assoc) (t : List UInt8) : List Assoc × List Int :=
  if (getP t).2 ≠ 0 then (l, [100 + (getP t).2]) else packL l (getP t).1

def monStep (m : Monitor) (t : List UInt8) : Monitor := ⟨m.records + 1, (textL m.list t).1, m.found ++ (textL m.list t).2.map fun r => (m.records, r)⟩
def monS (m : Monitor) (t : List UInt8) : Monitor := if m.ok && decide (m.records < 60) then monStep m t else zMonitor

theorem getP_code (t : List UInt8) : (getP t).2 = 0 ∨ (getP t).2 = 1 ∨ (getP t).2 = 2 ∨ (getP t).2 = 3 := by
  unfold getP
  repeat' split
  all_goals simp
theorem getP_ok {t : List UInt8} (h : (getP t).2 = 0) : (getP t).1.ok = true := by
  unfold getP at h ⊢
  split at h
  · exact absurd h (by simp)
  split at h
  · exact absurd h (by simp)
  rename_i q1 q2
  rw [if_neg q1, if_neg q2]
  cases hc : chunksAt t t.length 12 [] with
  | none => rw [hc] at h; exact absurd h (by simp)
  | some cs =>
    rw [hc] at h
    simp only at h ⊢
    split at h
    · rename_i q3; rw [if_pos q3]; exact q3
    · exact absurd h (by simp)

theorem findM_some {l : List Assoc} {a b : Int} {i : Nat} (h : findM l a b = some i) : i < l.length ∧ meet (nth l i).ports (a, b) = true := by
  unfold findM at h
  rw [List.findIdx?_eq_some_iff_getElem] at h
  obtain ⟨h1, h2, _⟩ := h
  exact ⟨h1, by rw [nth_eq h1]; exact h2⟩

theorem findM_none {l : List Assoc} {a b : Int} (h : findM l a b = none) : ∀ x ∈ l, meet x.ports (a, b) = false := by
  unfold findM at h
  rw [List.findIdx?_eq_none_iff] at h
  exact h

/-- What is told by a packet of rules: numbers in order. -/
def ToldOk (r : List Int) : Prop := r.Pairwise (· < ·) ∧ ∀ k ∈ r, (1 ≤ k ∧ k ≤ 11) ∨ (101 ≤ k ∧ k ≤ 105)

theorem told_one {k : Int} (h : (1 ≤ k ∧ k ≤ 11) ∨ (101 ≤ k ∧ k ≤ 105)) : ToldOk [k] := ⟨List.pairwise_singleton _ _, fun j hj => by rw [List.mem_singleton.1 hj]; exact h⟩
theorem told_nil : ToldOk [] := ⟨List.Pairwise.nil, fun j hj => by cases hj⟩

theorem told_step (x : Assoc) (p : Packet) : ToldOk (stepS x p).2 := by
  cases h : mineS x p
  · rw [stepS_other h]; exact told_nil
  · rw [stepS_rules h]
    exact ⟨rules_sorted _ _ _, fun k hk => Or.inl (rules_mem.1 hk).1⟩

theorem told_begin (l : List Assoc) (p : Packet) : ToldOk (beginL l p).2 := by
  unfold beginL
  split
  · exact told_one (by omega)
  split
  · exact told_step _ _
  split
  · exact told_one (by omega)
  · exact told_nil

theorem told_text (l : List Assoc) (t : List UInt8) : ToldOk (textL l t).2 := by
  unfold textL
  split
  · have := getP_code t
    exact told_one (by omega)
  · unfold packL
    split
    · exact told_begin _ _
    · split
      · exact told_begin _ _
      · exact told_step _ _

/-- Findings go on. -/
theorem fsOk_append {n : Int} {f : List (Int × Int)} {r : List Int} (hn : 0 ≤ n) (hf : fsOk n f = true) (hr : ToldOk r) : fsOk (n + 1) (f ++ r.map fun k => (n, k)) = true := by
  unfold fsOk at hf ⊢
  rw [allTo_iff] at hf ⊢
  intro i hi
  simp at hi
  have hold : ∀ j, j < f.length → (nth f j).1 < n := fun j hj => by
    have := hf j hj
    simp [fsP, fOk, inB] at this
    omega
  have hnew : ∀ j, (hj : j < r.length) → nth (f ++ r.map fun k => (n, k)) (f.length + j) = (n, r[j]) := fun j hj => by
    rw [nth_append_right (by simpa using hj), nth_eq (by simpa using hj)]; simp
  by_cases q : i < f.length
  · have h1 := hf i q
    simp only [fsP, Bool.and_eq_true, Bool.or_eq_true, beq_iff_eq] at h1 ⊢
    rw [nth_append_left q]
    refine ⟨?_, ?_⟩
    · have := h1.1
      simp only [fOk, inB, Bool.and_eq_true, Bool.or_eq_true, decide_eq_true_eq] at this ⊢
      omega
    · rcases h1.2 with h2 | h2
      · exact Or.inl h2
      · right; rw [nth_append_left (by omega)]; exact h2
  · obtain ⟨j, rfl⟩ : ∃ j, i = f.length + j := ⟨i - f.length, by omega⟩
    have hj : j < r.length := by omega
    simp only [fsP, Bool.and_eq_true, Bool.or_eq_true, beq_iff_eq]
    rw [hnew j hj]
    have hk := hr.2 _ (List.getElem_mem hj)
    refine ⟨by simp only [fOk, inB, Bool.and_eq_true, Bool.or_eq_true, decide_eq_true_eq]; omega, ?_⟩
    by_cases q0 : f.length + j = 0
    · exact Or.inl q0
    right
    by_cases qj : j = 0
    · subst qj
      have hl : f.length - 1 < f.length := by omega
      rw [show f.length + 0 - 1 = f.length - 1 by omega, nth_append_left hl]
      have := hold _ hl
      simp [fLess]; omega
    · rw [show f.length + j - 1 = f.length + (j - 1) by omega, hnew (j - 1) (by omega)]
      have := List.pairwise_iff_getElem.1 hr.1 (j - 1) j (by omega) hj (by omega)
      simp [fLess]; omega

/-! ## Associations stay apart -/

structure ListOk (l : List Assoc) : Prop where
  each : ∀ x ∈ l, x.ok = true ∧ x.state ≠ 0
  apart : (l.map Assoc.ports).Pairwise fun p q => meet p q = false

theorem step_state {x : Assoc} {p : Packet} (h : mineS x p = true) : x.state ≤ (stepS x p).1.state := (stepS_keeps h).state

theorem byports {x : Assoc} {p : Packet} (hx : x.ok = true) (hp : p.ok = true) (h : meet x.ports (p.src, p.dst) = true) : mineS x p = true := by
  refine mine_iff.2 ⟨hx, hp, ?_⟩
  simp only [meet, Assoc.ports, Bool.or_eq_true, Bool.and_eq_true, decide_eq_true_eq] at h
  rcases h with h | h
  · right; exact ⟨(of_decide_eq_true h.1).symm, (of_decide_eq_true h.2).symm⟩
  · left; exact ⟨(of_decide_eq_true h.2).symm, (of_decide_eq_true h.1).symm⟩

theorem new_mine {p : Packet} (hp : p.ok = true) : mineS (newA p.src p.dst) p = true := by
  obtain ⟨_, h1, h2, h3, _⟩ := packet_ok.1 hp
  exact mine_iff.2 ⟨newA_ok.2 ⟨h1, h2, h3⟩, hp, Or.inr ⟨rfl, rfl⟩⟩

/-- A new association has begun: the packet is an init alone. -/
theorem begun {p : Packet} (hp : p.ok = true) (hk : (nth p.chunks 0).kind = 1) (hr : (stepS (newA p.src p.dst) p).2 = []) : p.chunks.length = 1 ∧ p.tag = 0 ∧ ∃ x, getHello (nth p.chunks 0) = some x ∧ (stepS (newA p.src p.dst) p).1 = ⟨p.src, p.dst, 1, false, ⟨x.tag, x.streams, x.tsn, [], 0⟩, zSide⟩ := by
  have hm := new_mine hp
  have h1 := (packet_ok.1 hp).2.2.2.2.2.1
  have hb : byBS (newA p.src p.dst) p = false := by
    have := (packet_ok.1 hp).2.2.2.1
    exact decide_eq_false fun e => this e.1
  have hno : ∀ k, k ∉ rulesS (newA p.src p.dst) false p := by
    rw [← hb, ← stepS_rules hm, hr]; simp
  have ha : p.alone = true := by
    cases q : p.alone
    · exact absurd (rules_mem.2 ⟨by decide, Or.inl ⟨rfl, q⟩⟩) (hno 1)
    · rfl
  have hmem : nth p.chunks 0 ∈ p.chunks := nth_mem (by omega)
  have hl : p.chunks.length = 1 := by
    have := ha
    simp only [Packet.alone, Bool.and_eq_true, Bool.or_eq_true, decide_eq_true_eq, List.all_eq_true] at this
    rcases this.1 with h | h
    · omega
    · have := h _ hmem
      simp [aloneK, hk] at this
  obtain ⟨c, hc⟩ := List.length_eq_one_iff.1 hl
  have hn : nth p.chunks 0 = c := by rw [hc]; rfl
  rw [hn] at hk ⊢
  have htag : p.tag = tagS (newA p.src p.dst) false p := by
    rcases Classical.em (p.tag = tagS (newA p.src p.dst) false p) with q | q
    · exact q
    · exact absurd (rules_mem.2 ⟨by decide, Or.inr (Or.inl ⟨rfl, q⟩)⟩) (hno 2)
  have htag0 : p.tag = 0 := by
    rw [htag]; unfold tagS; rw [if_pos (by rw [hc]; simp [hk])]
  refine ⟨hl, htag0, ?_⟩
  have e : p = ⟨p.src, p.dst, 0, [c]⟩ := by rw [← htag0, ← hc]
  cases hg : getHello c with
  | some x =>
    refine ⟨x, rfl, ?_⟩
    have := step_begin (s := p.src) (d := p.dst) (x := x) (c := c) (by rw [← e]; exact hm) hk hg
    rw [← e] at this
    rw [this]
  | none =>
    exfalso
    have hs : (stepC (newA p.src p.dst) false c).2 = 4 := by
      rw [stepC_hello (Or.inl hk), stepHello_F (mine_iff.1 hm).1 (Or.inl hk), if_neg (by omega), if_neg (by simp [newA]), hg]
    have : (4 : Int) ∈ rulesS (newA p.src p.dst) false p := rules_mem.2 ⟨by decide, Or.inr (Or.inr (by rw [hc]; simp [stepAll, hs]))⟩
    exact hno 4 this

theorem ListOk.append {l : List Assoc} (h : ListOk l) {p : Packet} (hp : p.ok = true) (hn : ∀ x ∈ l, meet x.ports (p.src, p.dst) = false) (hk : (nth p.chunks 0).kind = 1) (hr : (stepS (newA p.src p.dst) p).2 = []) : ListOk (l ++ [(stepS (newA p.src p.dst) p).1]) := by
  obtain ⟨_, _, x, _, he⟩ := begun hp hk hr
  have ho := stepS_ok (new_mine hp)
  rw [he] at ho ⊢
  refine ⟨fun y hy => ?_, ?_⟩
  · rcases List.mem_append.1 hy with q | q
    · exact h.each y q
    · rw [List.mem_singleton.1 q]; exact ⟨ho, by simp⟩
  · rw [List.map_append, List.pairwise_append]
    refine ⟨h.apart, by simp, fun a ha b hb => ?_⟩
    obtain ⟨y, hy, rfl⟩ := List.mem_map.1 ha
    simp at hb
    subst hb
    exact hn y hy

theorem ListOk.begin {l : List Assoc} (h : ListOk l) {p : Packet} (hp : p.ok = true) (hn : ∀ x ∈ l, meet x.ports (p.src, p.dst) = false) : ListOk (beginL l p).1 := by
  unfold beginL
  split
  · exact h
  split
  · exact h
  split
  · exact h
  · rename_i q1 q2 q3
    exact h.append hp hn (by simpa using q1) (by simpa using q2)

theorem begin_len (l : List Assoc) (p : Packet) (h : l.length ≤ 3) : (beginL l p).1.length ≤ 3 := by
  unfold beginL
  split
  · exact h
  split
  · exact h
  split
  · exact h
  · simp; omega

theorem ListOk.erase {l : List Assoc} (h : ListOk l) (i : Nat) : ListOk (l.eraseIdx i) :=
  ⟨fun x hx => h.each x ((List.eraseIdx_sublist l i).subset hx), h.apart.sublist ((List.eraseIdx_sublist l i).map _)⟩

/-- Only one association is between two ports. -/
theorem apart_eq {l : List Assoc} (h : (l.map Assoc.ports).Pairwise fun p q => meet p q = false) {i j : Nat} (hi : i < l.length) (hj : j < l.length) (hm : meet (nth l i).ports (nth l j).ports = true) : i = j := by
  rw [List.pairwise_map, List.pairwise_iff_getElem] at h
  rw [nth_eq hi, nth_eq hj] at hm
  rcases Nat.lt_trichotomy i j with q | q | q
  · have := h i j hi hj q; rw [hm] at this; cases this
  · exact q
  · have := h j i hj hi q; rw [meet_comm, hm] at this; cases this

theorem meet_trans {a b c : Int × Int} (h1 : meet a b = true) (h2 : meet c b = true) : meet a c = true := by
  simp [meet] at *; omega

theorem mem_erase {l : List Assoc} {i : Nat} {x : Assoc} (hx : x ∈ l.eraseIdx i) : ∃ j, j < l.length ∧ j ≠ i ∧ nth l j = x := by
  rw [List.mem_eraseIdx_iff_getElem] at hx
  obtain ⟨j, hj, hne, e⟩ := hx
  exact ⟨j, hj, hne, by rw [nth_eq hj]; exact e⟩

theorem erase_far {l : List Assoc} (h : ListOk l) {a b : Int} {i : Nat} (hf : findM l a b = some i) : ∀ x ∈ l.eraseIdx i, meet x.ports (a, b) = false := by
  intro x hx
  obtain ⟨j, hj, hne, rfl⟩ := mem_erase hx
  obtain ⟨hi, hm⟩ := findM_some hf
  cases q : meet (nth l j).ports (a, b)
  · rfl
  · exact absurd (apart_eq h.apart hj hi (meet_trans q hm)) hne

theorem set_ports {l : List Assoc} {i : Nat} (hi : i < l.length) {y : Assoc} (h : y.ports = (nth l i).ports) : (l.set i y).map Assoc.ports = l.map Assoc.ports := by
  rw [List.map_set, h, nth_eq hi]
  have e : l[i].ports = (l.map Assoc.ports)[i]'(by simpa using hi) := by simp
  rw [e, List.set_getElem_self]

theorem ListOk.set {l : List Assoc} (h : ListOk l) {i : Nat} (hi : i < l.length) {y : Assoc} (hy : y.ok = true ∧ y.state ≠ 0) (hp : y.ports = (nth l i).ports) : ListOk (l.set i y) := by
  refine ⟨fun x hx => ?_, ?_⟩
  · rcases List.mem_or_eq_of_mem_set hx with q | q
    · exact h.each x q
    · rw [q]; exact hy
  · rw [set_ports hi hp]; exact h.apart

theorem ListOk.pack {l : List Assoc} (h : ListOk l) {p : Packet} (hp : p.ok = true) : ListOk (packL l p).1 := by
  unfold packL
  split
  · exact h.begin hp (findM_none ‹_›)
  · rename_i i hf
    obtain ⟨hi, hm⟩ := findM_some hf
    split
    · exact (h.erase i).begin hp (erase_far h hf)
    · have hx := h.each _ (nth_mem hi)
      have hmi := byports hx.1 hp hm
      have hk := stepS_keeps hmi
      have h0 := Assoc.ok_state hx.1
      refine h.set hi ⟨stepS_ok hmi, ?_⟩ ?_
      · have := hk.state; omega
      · simp only [Assoc.ports]; rw [hk.src, hk.dst]

theorem pack_len {l : List Assoc} (p : Packet) (h : l.length ≤ 3) : (packL l p).1.length ≤ 3 := by
  unfold packL
  split
  · exact begin_len _ _ h
  · split
    · exact begin_len _ _ (Nat.le_trans (List.length_eraseIdx_le _ _) h)
    · simpa using h

theorem ListOk.text {l : List Assoc} (h : ListOk l) (t : List UInt8) : ListOk (textL l t).1 := by
  unfold textL
  split
  · exact h
  · rename_i q
    exact h.pack (getP_ok (by simpa using q))

theorem text_len {l : List Assoc} (t : List UInt8) (h : l.length ≤ 3) : (textL l t).1.length ≤ 3 := by
  unfold textL
  split
  · exact h
  · exact pack_len _ h

theorem MonOk.list {m : Monitor} (h : MonOk m) : ListOk m.list := ⟨h.each, h.apart⟩

theorem monStep_ok {m : Monitor} (h : MonOk m) (hr : m.records < 60) (t : List UInt8) : MonOk (monStep m t) := by
  have hl := h.list.text t
  have h0 := h.recs
  exact ⟨by simp only [monStep]; omega, text_len t h.len, hl.each, hl.apart, fsOk_append h0.1 h.found (told_text _ _)⟩
end

end Go.Proofs.YtldoekmblpghmaaGreat
