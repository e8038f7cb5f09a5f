/-
  What a chunk never undoes; packets of one chunk; chunks that are written can be read.
-/
import Derived.Test.YtnhhcfbigjpfeaaDoorQ20
namespace Go.Proofs.YtnhhcfbigjpfeaaDoor
set_option linter.all false

section
set_option maxRecDepth 20000
set_option maxHeartbeats 1000000
attribute [-simp] List.getD_eq_getElem?_getD

structure Keeps (x y : Assoc) (byB : Bool) : Prop where
  src : y.src = x.src
  dst : y.dst = x.dst
  state : x.state ≤ y.state
  aa : x.a.acked ≤ y.a.acked
  ba : x.b.acked ≤ y.b.acked
  asent : x.a.sent <+: y.a.sent
  bsent : x.b.sent <+: y.b.sent
  other : (y.other byB).sent = (x.other byB).sent
  mine : (y.side byB).acked = (x.side byB).acked
  tag : (y.other byB).tag = (x.other byB).tag

theorem Keeps.refl (x : Assoc) (byB : Bool) : Keeps x x byB :=
  ⟨rfl, rfl, Int.le_refl _, Int.le_refl _, Int.le_refl _, List.prefix_refl _, List.prefix_refl _, rfl, rfl, rfl⟩

theorem Keeps.trans {x y z : Assoc} {byB : Bool} (h : Keeps x y byB) (k : Keeps y z byB) : Keeps x z byB :=
  ⟨k.src.trans h.src, k.dst.trans h.dst, Int.le_trans h.state k.state, Int.le_trans h.aa k.aa, Int.le_trans h.ba k.ba, h.asent.trans k.asent, h.bsent.trans k.bsent, k.other.trans h.other, k.mine.trans h.mine, k.tag.trans h.tag⟩

theorem keeps_ite {x : Assoc} {byB : Bool} {c : Prop} [Decidable c] {u v : Assoc × Int} (h1 : c → Keeps x u.1 byB) (h2 : ¬ c → Keeps x v.1 byB) : Keeps x (if c then u else v).1 byB := by
  split
  · exact h1 ‹_›
  · exact h2 ‹_›

/-- Only the state, and who asked for the end, change. -/
theorem keeps_state (x : Assoc) (byB : Bool) {s : Int} {w : Bool} (h : x.state ≤ s) : Keeps x { x with state := s, byB := w } byB := by
  cases byB <;> exact ⟨rfl, rfl, h, Int.le_refl _, Int.le_refl _, List.prefix_refl _, List.prefix_refl _, rfl, rfl, rfl⟩

theorem stepHello_keeps {x : Assoc} (h : x.ok = true) (byB : Bool) {c : Chunk} (hk : c.kind = 1 ∨ c.kind = 2) : Keeps x (stepHello x byB c).1 byB := by
  cases byB
  · rw [stepHello_F h hk]
    refine keeps_ite (fun _ => Keeps.refl _ _) (fun _ => keeps_ite (fun _ => Keeps.refl _ _) (fun _ => ?_))
    cases getHello c with
    | none => exact Keeps.refl _ _
    | some d =>
      refine keeps_ite (fun q => ?_) (fun _ => keeps_ite (fun _ => Keeps.refl _ _) (fun _ => Keeps.refl _ _))
      exact ⟨rfl, rfl, by show x.state ≤ 1; omega, Int.le_refl _, Int.le_refl _, List.prefix_refl _, List.prefix_refl _, rfl, rfl, rfl⟩
  · rw [stepHello_T h hk]
    refine keeps_ite (fun _ => Keeps.refl _ _) (fun _ => keeps_ite (fun _ => Keeps.refl _ _) (fun _ => ?_))
    cases getHello c with
    | none => exact Keeps.refl _ _
    | some d =>
      refine keeps_ite (fun q => ?_) (fun _ => keeps_ite (fun _ => Keeps.refl _ _) (fun _ => Keeps.refl _ _))
      exact ⟨rfl, rfl, by show x.state ≤ 2; omega, Int.le_refl _, Int.le_refl _, List.prefix_refl _, List.prefix_refl _, rfl, rfl, rfl⟩

theorem stepPart_keeps (x : Assoc) (byB : Bool) (c : Chunk) : Keeps x (stepPart x byB c).1 byB := by
  unfold stepPart
  simp only
  split
  · exact Keeps.refl _ _
  · split
    · exact Keeps.refl _ _
    · refine keeps_ite (fun _ => Keeps.refl _ _) (fun _ => keeps_ite (fun _ => Keeps.refl _ _) (fun _ => keeps_ite (fun _ => Keeps.refl _ _) (fun _ => keeps_ite (fun _ => Keeps.refl _ _) (fun _ => keeps_ite (fun _ => Keeps.refl _ _) (fun _ => keeps_ite (fun _ => Keeps.refl _ _) (fun _ => ?_))))))
      cases byB
      · exact ⟨rfl, rfl, Int.le_refl _, Int.le_refl _, Int.le_refl _, List.prefix_append _ _, List.prefix_refl _, rfl, rfl, rfl⟩
      · exact ⟨rfl, rfl, Int.le_refl _, Int.le_refl _, Int.le_refl _, List.prefix_refl _, List.prefix_append _ _, rfl, rfl, rfl⟩

theorem stepSack_keeps (x : Assoc) (byB : Bool) (c : Chunk) : Keeps x (stepSack x byB c).1 byB := by
  rw [stepSack_eq]
  refine keeps_ite (fun _ => Keeps.refl _ _) (fun _ => ?_)
  cases getSack c with
  | none => exact Keeps.refl _ _
  | some k =>
    refine keeps_ite (fun _ => Keeps.refl _ _) (fun _ => ?_)
    generalize diffS (addS (x.other byB).first (-1)) k.cum = f
    cases byB
    · exact ⟨rfl, rfl, Int.le_refl _, Int.le_refl _, by show x.b.acked ≤ max x.b.acked f; omega, List.prefix_refl _, List.prefix_refl _, rfl, rfl, rfl⟩
    · exact ⟨rfl, rfl, Int.le_refl _, by show x.a.acked ≤ max x.a.acked f; omega, Int.le_refl _, List.prefix_refl _, List.prefix_refl _, rfl, rfl, rfl⟩

theorem stepEnd_keeps (x : Assoc) (byB : Bool) (k : Int) : Keeps x (stepEnd x byB k).1 byB := by
  unfold stepEnd
  simp only
  repeat' split
  all_goals first
    | exact Keeps.refl _ _
    | exact keeps_state x byB (by omega)

theorem stepCookie_keeps (x : Assoc) (byB : Bool) (k : Int) : Keeps x (stepCookie x byB k).1 byB := by
  unfold stepCookie
  repeat' split
  all_goals first
    | exact Keeps.refl _ _
    | exact keeps_state x byB (by omega)

theorem stepC_keeps {x : Assoc} (h : x.ok = true) (byB : Bool) (c : Chunk) : Keeps x (stepC x byB c).1 byB := by
  unfold stepC
  refine keeps_ite (fun q => stepHello_keeps h byB q) (fun _ => keeps_ite (fun _ => stepPart_keeps x byB c) (fun _ => keeps_ite (fun _ => stepSack_keeps x byB c) (fun _ => keeps_ite (fun _ => stepEnd_keeps x byB _) (fun _ => stepCookie_keeps x byB _))))

theorem stepAll_keeps (byB : Bool) : ∀ (l : List Chunk) {x : Assoc} (r : List Int), x.ok = true → Keeps x (stepAll byB l x r).1 byB
  | [], x, r, h => Keeps.refl _ _
  | c :: l, x, r, h => (stepC_keeps h byB c).trans (stepAll_keeps byB l _ (stepC_ok h byB c))

theorem rules_mem {x : Assoc} {byB : Bool} {p : Packet} {k : Int} : k ∈ rulesS x byB p ↔ (1 ≤ k ∧ k ≤ 11) ∧ ((k = 1 ∧ p.alone = false) ∨ (k = 2 ∧ p.tag ≠ tagS x byB p) ∨ k ∈ (stepAll byB p.chunks x []).2) := by
  unfold rulesS
  rw [List.mem_filter]
  constructor
  · rintro ⟨h1, h2⟩
    obtain ⟨n, hn, rfl⟩ := List.mem_map.1 h1
    have hn2 := List.mem_range.1 hn
    simp only [Bool.and_eq_true, Bool.or_eq_true, decide_eq_true_eq, Bool.not_eq_true'] at h2
    refine ⟨⟨h2.1, by show (n : Int) ≤ 11; omega⟩, ?_⟩
    rcases h2.2 with (h | h) | h
    · exact Or.inl h
    · exact Or.inr (Or.inl h)
    · exact Or.inr (Or.inr h)
  · rintro ⟨⟨h1, h2⟩, h3⟩
    refine ⟨List.mem_map.2 ⟨k.toNat, List.mem_range.2 (by omega), by show ((k.toNat : Nat) : Int) = k; omega⟩, ?_⟩
    simp only [Bool.and_eq_true, Bool.or_eq_true, decide_eq_true_eq, Bool.not_eq_true']
    refine ⟨h1, ?_⟩
    rcases h3 with h | h | h
    · exact Or.inl (Or.inl h)
    · exact Or.inl (Or.inr h)
    · exact Or.inr h

theorem rules_eq {x : Assoc} {byB : Bool} {p : Packet} {q : Int → Bool} (h : ∀ k : Int, 1 ≤ k → k ≤ 11 → (((k = 1 ∧ p.alone = false) ∨ (k = 2 ∧ p.tag ≠ tagS x byB p) ∨ k ∈ (stepAll byB p.chunks x []).2) ↔ q k = true)) :
    rulesS x byB p = ((List.range 12).map Int.ofNat).filter fun k => decide (1 ≤ k) && q k := by
  unfold rulesS
  refine List.filter_congr fun k hk => ?_
  obtain ⟨n, hn, rfl⟩ := List.mem_map.1 hk
  have hn2 := List.mem_range.1 hn
  rw [Bool.eq_iff_iff]
  simp only [Bool.and_eq_true, Bool.or_eq_true, decide_eq_true_eq, Bool.not_eq_true']
  constructor
  · rintro ⟨h1, h2⟩
    refine ⟨h1, (h _ h1 (by show (n : Int) ≤ 11; omega)).1 ?_⟩
    rcases h2 with (h | h) | h
    · exact Or.inl h
    · exact Or.inr (Or.inl h)
    · exact Or.inr (Or.inr h)
  · rintro ⟨h1, h2⟩
    refine ⟨h1, ?_⟩
    rcases (h _ h1 (by show (n : Int) ≤ 11; omega)).2 h2 with h | h | h
    · exact Or.inl (Or.inl h)
    · exact Or.inl (Or.inr h)
    · exact Or.inr h

theorem filter_one {r : Int} (hr : 0 ≤ r ∧ r ≤ 11) : (((List.range 12).map Int.ofNat).filter fun k => decide (1 ≤ k) && decide (k = r)) = if r = 0 then [] else [r] := by
  have : r = 0 ∨ r = 1 ∨ r = 2 ∨ r = 3 ∨ r = 4 ∨ r = 5 ∨ r = 6 ∨ r = 7 ∨ r = 8 ∨ r = 9 ∨ r = 10 ∨ r = 11 := by omega
  rcases this with rfl | rfl | rfl | rfl | rfl | rfl | rfl | rfl | rfl | rfl | rfl | rfl <;> decide

/-- The rules of a packet with one chunk and the right tag. -/
theorem rules_one {x : Assoc} {byB : Bool} {p : Packet} {c : Chunk} (hc : p.chunks = [c]) (ha : p.alone = true) (ht : p.tag = tagS x byB p) : rulesS x byB p = if (stepC x byB c).2 = 0 then [] else [(stepC x byB c).2] := by
  rw [rules_eq (q := fun k => decide (k = (stepC x byB c).2)), filter_one (stepC_rule x byB c)]
  intro k _ _
  rw [hc, ha]
  simp [stepAll, ← ht]

theorem alone_one {p : Packet} {c : Chunk} (hc : p.chunks = [c]) (ho : p.ok = true) : p.alone = true := by
  unfold Packet.alone
  rw [ho, hc]
  simp

theorem packet_ok {p : Packet} : p.ok = true ↔ (∀ c ∈ p.chunks, c.ok = true) ∧ (1 ≤ p.src ∧ p.src ≤ 65535) ∧ (1 ≤ p.dst ∧ p.dst ≤ 65535) ∧ p.src ≠ p.dst ∧ (0 ≤ p.tag ∧ p.tag ≤ 4294967295) ∧ 1 ≤ p.chunks.length ∧ p.chunks.length ≤ 4 := by
  simp only [Packet.ok, inB, Bool.and_eq_true, decide_eq_true_eq, List.all_eq_true]
  constructor
  · rintro ⟨⟨⟨⟨⟨h1, h2⟩, h3⟩, h4⟩, h5⟩, h6⟩
    exact ⟨h1, h2, h3, h4, h5, by omega, by omega⟩
  · rintro ⟨h1, h2, h3, h4, h5, h6, h7⟩
    exact ⟨⟨⟨⟨⟨h1, h2⟩, h3⟩, h4⟩, h5⟩, by omega, by omega⟩

theorem mine_iff {x : Assoc} {p : Packet} : mineS x p = true ↔ x.ok = true ∧ p.ok = true ∧ ((p.src = x.dst ∧ p.dst = x.src) ∨ (p.src = x.src ∧ p.dst = x.dst)) := by
  simp [mineS, byBS, and_assoc]

theorem stepS_mine {x : Assoc} {p : Packet} (h : mineS x p = true) : stepS x p = if rulesS x (byBS x p) p = [] then ((stepAll (byBS x p) p.chunks x []).1, []) else (x, rulesS x (byBS x p) p) := by
  unfold stepS; rw [if_pos h]

theorem stepS_rules {x : Assoc} {p : Packet} (h : mineS x p = true) : (stepS x p).2 = rulesS x (byBS x p) p := by
  rw [stepS_mine h]
  split
  · exact (‹rulesS x (byBS x p) p = []›).symm
  · rfl

theorem stepS_ok {x : Assoc} {p : Packet} (h : mineS x p = true) : (stepS x p).1.ok = true := by
  rw [stepS_mine h]
  split
  · exact stepAll_ok _ _ _ (mine_iff.1 h).1
  · exact (mine_iff.1 h).1

theorem stepS_keeps {x : Assoc} {p : Packet} (h : mineS x p = true) : Keeps x (stepS x p).1 (byBS x p) := by
  rw [stepS_mine h]
  split
  · exact stepAll_keeps _ _ _ (mine_iff.1 h).1
  · exact Keeps.refl _ _

end

end Go.Proofs.YtnhhcfbigjpfeaaDoor
