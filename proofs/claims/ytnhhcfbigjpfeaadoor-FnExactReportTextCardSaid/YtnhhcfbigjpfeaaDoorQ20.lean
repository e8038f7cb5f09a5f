/-
  Associations that are valid; copies.
  Sides of an association; copies.
  One chunk, by the reference.
  One chunk, by the reference: ends and cookies.
  One chunk, by the reference: parts.
  One chunk, by the reference: receipts.
  A chunk keeps an association valid.
  One chunk, by the reference.
  A packet, by the reference.
  Draws of chunks, parts and packets.
  Draws of chunks and parts.
  Chunks in bytes.
  Packets in bytes.
  Packets written; packets drawn.
  One chunk, by the program: what a side tells first.
-/
import Derived.Test.YtnhhcfbigjpfeaaDoorQ19
namespace Go.Proofs.YtnhhcfbigjpfeaaDoor
set_option linter.all false

section
set_option maxRecDepth 200000
attribute [-simp] List.getD_eq_getElem?_getD

def Assoc.bd (x : Assoc) : Prop := x.a.bd ∧ x.b.bd

theorem assoc_iff (x : Assoc) : x.ok = true ↔ ((1 ≤ x.src ∧ x.src ≤ 65535) ∧ (1 ≤ x.dst ∧ x.dst ≤ 65535) ∧ x.src ≠ x.dst ∧ (0 ≤ x.state ∧ x.state ≤ 7) ∧ x.a.ok = true ∧ x.b.ok = true ∧ (0 < x.a.tag ↔ 1 ≤ x.state) ∧ (x.state = 7 ∨ (0 < x.b.tag ↔ 2 ≤ x.state)) ∧ (3 ≤ x.state ∨ x.a.sent.length + x.b.sent.length ≤ 0) ∧ (x.byB = true → 5 ≤ x.state)) := by
  cases hb : x.byB <;> simp [Assoc.ok, inB, hb, and_assoc]

theorem l31Open_ok (n : Int) : Fn Tryd.prog fn_spec_l31Open [.int .i64 n] [] (.bool (inB n 3 7)) [] := by
  refine Fn.of_go ln_spec_l31Open rfl ?_
  simp [ac_spec_l31Open]
  refine goCall_eq (l6In_ok _ _ _) (by simp) ?_
  simp
  exact Ends.mk [] [] (by simp)

theorem inB_dec (n a b : Int) : inB n a b = decide (a ≤ n ∧ n ≤ b) := by rw [Bool.eq_iff_iff]; simp [inB]
theorem bne_cases (p q : Prop) [Decidable p] [Decidable q] : ((p ↔ q) ∧ (decide p != decide q) = false) ∨ (¬ (p ↔ q) ∧ (decide p != decide q) = true) := by
  by_cases hp : p <;> by_cases hq : q <;> simp [hp, hq]

theorem spec_AssocValid_ok (x : Assoc) (hb : x.bd) : Fn Tryd.prog fn_spec_AssocValid [x.v] [] (.bool x.ok) [] := by
  refine Fn.of_go ln_spec_AssocValid rfl ?_
  have f1 := spec_SideValid_ok x.a hb.1
  have f2 := spec_SideValid_ok x.b hb.2
  have l1 := hb.1.2
  have l2 := hb.2.2
  simp only [Side.v, Side.cells, psl] at f1 f2
  have key := assoc_iff x
  rcases bne_cases (0 < x.a.tag) (1 ≤ x.state) with ⟨hA, eA⟩ | ⟨hA, eA⟩ <;> rcases bne_cases (0 < x.b.tag) (2 ≤ x.state) with ⟨hB, eB⟩ | ⟨hB, eB⟩
  all_goals simp [ac_spec_AssocValid, Assoc.v, Assoc.cells, Side.cells, psl, eA, eB]
  repeat' (first
    | (refine goTest_dec (fun h => ?_) (fun h => ?_) <;> simp [h, eA, eB])
    | (refine goTest_bool (fun h => ?_) (fun h => ?_) <;> simp [h, eA, eB])
    | (refine goCall_eq (l6In_ok _ _ _) (by simp) ?_; simp [inB_dec, -Bool.decide_and, eA, eB])
    | (refine goCall_eq (l31Open_ok _) (by simp) ?_; simp [inB_dec, -Bool.decide_and, eA, eB])
    | (refine goCall_eq f1 (by simp) ?_; simp [eA, eB])
    | (refine goCall_eq f2 (by simp) ?_; simp [eA, eB])
    | (refine goDCall_eq f1 (by simp) (by simp) ?_; simp [eA, eB])
    | (refine goDCall_eq f2 (by simp) (by simp) ?_; simp [eA, eB])
    | (refine And.intro (by omega) ?_)
    | (refine Ends.mk [] [] ?_; clear f1 f2 eA eB; simp; refine Bool.eq_false_iff.2 (fun q => ?_); obtain ⟨q1, q2, q3, q4, q5, q6, q7, q8, q9, q10⟩ := key.1 q; first | omega | (simp_all <;> omega))
    | (refine Ends.mk [] [] ?_; clear f1 f2 eA eB; have e : x.ok = decide (5 ≤ x.state) := (by rw [Bool.eq_iff_iff, key, decide_eq_true_iff]; exact ⟨fun q => q.2.2.2.2.2.2.2.2.2 ‹x.byB = true›, fun q => ⟨by omega, by omega, by omega, by omega, by assumption, by assumption, by omega, by omega, by omega, fun _ => q⟩⟩); simp [e] <;> omega)
    | (refine Ends.mk [] [] ?_; clear f1 f2 eA eB; simp; refine key.2 ⟨by omega, by omega, by omega, by omega, by assumption, by assumption, by omega, by omega, by omega, fun q => ?_⟩; simp_all <;> omega))

theorem impl_AssocValid_ok (x : Assoc) (hb : x.bd) : Fn Tryd.prog fn_impl_AssocValid [x.v] [] (.bool x.ok) [] := by
  refine Fn.of_go ln_impl_AssocValid rfl ?_
  have f1 := impl_SideValid_ok x.a hb.1
  have f2 := impl_SideValid_ok x.b hb.2
  have l1 := hb.1.2
  have l2 := hb.2.2
  simp only [Side.v, Side.cells, psl] at f1 f2
  have key := assoc_iff x
  rcases bne_cases (0 < x.a.tag) (1 ≤ x.state) with ⟨hA, eA⟩ | ⟨hA, eA⟩ <;> rcases bne_cases (0 < x.b.tag) (2 ≤ x.state) with ⟨hB, eB⟩ | ⟨hB, eB⟩
  all_goals simp [ac_impl_AssocValid, Assoc.v, Assoc.cells, Side.cells, psl, eA, eB]
  repeat' (first
    | (refine goTest_dec (fun h => ?_) (fun h => ?_) <;> simp [h, eA, eB])
    | (refine goTest_bool (fun h => ?_) (fun h => ?_) <;> simp [h, eA, eB])
    | (refine goCall_eq f1 (by simp) ?_; simp [eA, eB])
    | (refine goCall_eq f2 (by simp) ?_; simp [eA, eB])
    | (refine goDCall_eq f1 (by simp) (by simp) ?_; simp [eA, eB])
    | (refine goDCall_eq f2 (by simp) (by simp) ?_; simp [eA, eB])
    | (refine And.intro (by omega) ?_)
    | (refine Ends.mk [] [] ?_; clear f1 f2 eA eB; simp; refine Bool.eq_false_iff.2 (fun q => ?_); obtain ⟨q1, q2, q3, q4, q5, q6, q7, q8, q9, q10⟩ := key.1 q; first | omega | (simp_all <;> omega))
    | (refine Ends.mk [] [] ?_; clear f1 f2 eA eB; have e : x.ok = decide (5 ≤ x.state) := (by rw [Bool.eq_iff_iff, key, decide_eq_true_iff]; exact ⟨fun q => q.2.2.2.2.2.2.2.2.2 ‹x.byB = true›, fun q => ⟨by omega, by omega, by omega, by omega, by assumption, by assumption, by omega, by omega, by omega, fun _ => q⟩⟩); simp [e] <;> omega)
    | (refine Ends.mk [] [] ?_; clear f1 f2 eA eB; simp; refine key.2 ⟨by omega, by omega, by omega, by omega, by assumption, by assumption, by omega, by omega, by omega, fun q => ?_⟩; simp_all <;> omega))
end

section
set_option maxRecDepth 200000
attribute [-simp] List.getD_eq_getElem?_getD

theorem assoc_v (x : Assoc) : x.v = .agg [.int .i64 x.src, .int .i64 x.dst, .int .i64 x.state, .bool x.byB, .int .i64 x.a.tag, .int .i64 x.a.streams, .int .i64 x.a.first, .sl none 7 (x.a.sent.map Part.v), .int .i64 x.a.acked, .int .i64 x.b.tag, .int .i64 x.b.streams, .int .i64 x.b.first, .sl none 7 (x.b.sent.map Part.v), .int .i64 x.b.acked] := rfl
theorem side_v (s : Side) : s.v = .agg [.int .i64 s.tag, .int .i64 s.streams, .int .i64 s.first, .sl none 7 (s.sent.map Part.v), .int .i64 s.acked] := rfl
theorem pt_v (d : Part) : d.v = .agg [.int .i64 d.tsn, .int .i64 d.stream, .int .i64 d.ssn, .bool d.first, .bool d.last, .bool d.loose, .str d.text] := rfl
end

section
set_option maxRecDepth 200000
set_option maxHeartbeats 8000000
attribute [-simp] List.getD_eq_getElem?_getD
end

section
set_option maxRecDepth 200000
set_option maxHeartbeats 8000000
attribute [-simp] List.getD_eq_getElem?_getD
end

section
set_option maxRecDepth 200000
set_option maxHeartbeats 8000000
attribute [-simp] List.getD_eq_getElem?_getD


theorem getPart_ok {c : Chunk} {d : Part} (h : getPart c = some d) : d.ok = true ∧ 0 ≤ d.tsn ∧ d.tsn ≤ 65535 := by
  unfold getPart at h
  split at h
  · split at h
    · rename_i h2
      obtain rfl : c.part = d := by simpa using h
      refine ⟨h2, ?_⟩
      simp [Part.ok, inS] at h2
      omega
    · cases h
  · cases h
end

section
set_option maxRecDepth 200000
set_option maxHeartbeats 8000000
attribute [-simp] List.getD_eq_getElem?_getD


end

section
set_option maxRecDepth 200000
set_option maxHeartbeats 1000000
attribute [-simp] List.getD_eq_getElem?_getD


theorem side_iff {s : Side} (h : s.tag ≠ 0) : s.ok = true ↔ (allTo (partAt s) s.sent.length = true ∧ (1 ≤ s.tag ∧ s.tag ≤ 4294967295) ∧ (1 ≤ s.streams ∧ s.streams ≤ 4) ∧ (0 ≤ s.first ∧ s.first ≤ 65535) ∧ s.sent.length ≤ 12 ∧ 0 ≤ s.acked ∧ s.acked ≤ s.sent.length) := by
  rw [sideTag s h]
  simp only [inB, inS, Bool.and_eq_true, decide_eq_true_eq]
  constructor
  · rintro ⟨⟨⟨⟨⟨h1, h2⟩, h3⟩, h4⟩, h5⟩, h6⟩
    exact ⟨h1, by omega, by omega, by omega, h5, by omega⟩
  · rintro ⟨h1, h2, h3, h4, h5, h6⟩
    exact ⟨⟨⟨⟨⟨h1, by omega⟩, by omega⟩, by omega⟩, h5⟩, by omega⟩
theorem Side.ok_tag {s : Side} (h : s.ok = true) : 0 ≤ s.tag := by
  by_cases q : s.tag = 0
  · omega
  · have := (side_iff q).1 h; omega

theorem side_zero {s : Side} (h : s.tag = 0) : s.ok = true ↔ (s.streams = 0 ∧ s.first = 0 ∧ s.sent = [] ∧ s.acked = 0) := by
  unfold Side.ok; rw [if_pos h]; simp [and_assoc]

theorem Side.ok_first {s : Side} (h : s.ok = true) : (0 ≤ s.first ∧ s.first ≤ 65535) ∧ s.sent.length ≤ 12 ∧ 0 ≤ s.acked ∧ s.acked ≤ s.sent.length := by
  by_cases q : s.tag = 0
  · obtain ⟨-, h2, h3, h4⟩ := (side_zero q).1 h
    rw [h2, h3, h4]; simp
  · obtain ⟨-, -, -, h4, h5, h6⟩ := (side_iff q).1 h
    exact ⟨h4, h5, h6⟩

theorem Side.ok_bd {s : Side} (h : s.ok = true) : s.bd := by
  have := s.ok_first h
  exact ⟨by omega, by omega⟩
theorem Assoc.ok_bd {x : Assoc} (h : x.ok = true) : x.bd := by
  obtain ⟨-, -, -, -, h5, h6, -⟩ := (assoc_iff x).1 h
  exact ⟨Side.ok_bd h5, Side.ok_bd h6⟩
theorem Assoc.ok_side {x : Assoc} (h : x.ok = true) (byB : Bool) : (x.side byB).ok = true ∧ (x.other byB).ok = true := by
  obtain ⟨-, -, -, -, h5, h6, -⟩ := (assoc_iff x).1 h
  cases byB <;> exact ⟨‹_›, ‹_›⟩
theorem Assoc.ok_state {x : Assoc} (h : x.ok = true) : 0 ≤ x.state ∧ x.state ≤ 7 := by
  obtain ⟨-, -, -, h4, -⟩ := (assoc_iff x).1 h
  exact h4

theorem getHello_ok {c : Chunk} {d : Hello} (h : getHello c = some d) : d.ok = true := by
  unfold getHello at h
  split at h
  · split at h
    · rename_i h2
      obtain rfl : c.hello = d := by simpa using h
      exact h2
    · cases h
  · cases h

theorem newSide_ok {h : Hello} (hh : h.ok = true) : (⟨h.tag, h.streams, h.tsn, [], 0⟩ : Side).ok = true ∧ 0 < h.tag := by
  simp [Hello.ok, inB, inS] at hh
  have : h.tag ≠ 0 := by omega
  refine ⟨(side_iff (by exact this)).2 ⟨rfl, by simp only; omega, by simp only; omega, by simp only; omega, by simp, by simp, by simp⟩, by omega⟩

theorem stepHello_ok {x : Assoc} (h : x.ok = true) (byB : Bool) (c : Chunk) : (stepHello x byB c).1.ok = true := by
  unfold stepHello
  simp only
  split
  · exact h
  · split
    · exact h
    · rename_i k d hd
      split
      · exact h
      · split
        · exact h
        · rename_i q0 q1 q2
          obtain ⟨k1, k2⟩ := newSide_ok (getHello_ok hd)
          have q := (assoc_iff x).1 h
          obtain ⟨h1, h2, h3, h4, h5, h6, h7, h8, h9, h10⟩ := q
          have hb0 : x.byB = true → False := fun e => by have := h10 e; omega
          have hA := Side.ok_tag h5
          have hB := Side.ok_tag h6
          have hl : x.a.sent.length + x.b.sent.length ≤ 0 := by omega
          have hc : (x.state = 0 ∧ byB = false ∧ c.kind = 1) ∨ (x.state = 1 ∧ byB = true ∧ c.kind = 2) := by
            rcases Classical.em ((x.state = 0 ∧ byB = false ∧ c.kind = 1) ∨ (x.state = 1 ∧ byB = true ∧ c.kind = 2)) with e | e
            · exact e
            · exact absurd ⟨e, q2⟩ q0
          rcases hc with ⟨e1, e2, e3⟩ | ⟨e1, e2, e3⟩
          · subst e2
            have htb : ¬ 0 < x.b.tag := by omega
            show ({ x with state := x.state + 1, a := ⟨d.tag, d.streams, d.tsn, [], 0⟩ } : Assoc).ok = true
            rw [assoc_iff]
            refine ⟨h1, h2, h3, by (first | omega | (simp only; omega)), k1, h6, by (first | omega | (simp only; omega)), by (first | omega | (simp only; omega)), Or.inr (by show 0 + x.b.sent.length ≤ 0; omega), fun e => (hb0 e).elim⟩
          · subst e2
            show ({ x with state := x.state + 1, b := ⟨d.tag, d.streams, d.tsn, [], 0⟩ } : Assoc).ok = true
            rw [assoc_iff]
            refine ⟨h1, h2, h3, by (first | omega | (simp only; omega)), h5, k1, by (first | omega | (simp only; omega)), by (first | omega | (simp only; omega)), Or.inr (by show x.a.sent.length + 0 ≤ 0; omega), fun e => (hb0 e).elim⟩

theorem nth_append_lt {α : Type} [Inhabited α] {l r : List α} {i : Nat} (h : i < l.length) : nth (l ++ r) i = nth l i := by
  rw [nth_eq (by simp; omega), nth_eq h, List.getElem_append_left h]
theorem nth_append_len {α : Type} [Inhabited α] {l : List α} {x : α} : nth (l ++ [x]) l.length = x := by
  rw [nth_eq (by simp), List.getElem_append_right (by omega)]; simp

theorem addS_back {t f : Int} {n : Nat} (ht : 0 ≤ t ∧ t ≤ 65535) (h : addS t (-f) = n) : t = addS f n := by
  unfold addS at *; omega

theorem side_snoc {s : Side} {d : Part} (h : s.ok = true) (ht : s.tag ≠ 0) (hd : d.ok = true) (h1 : addS d.tsn (-s.first) = s.sent.length) (h2 : d.stream < s.streams) (h3 : followS s.sent d = true) (h4 : s.sent.length < 12) :
    ({ s with sent := s.sent ++ [d] } : Side).ok = true := by
  obtain ⟨q1, q2, q3, q4, q5, q6, q7⟩ := (side_iff ht).1 h
  refine (side_iff (by exact ht)).2 ⟨?_, q2, q3, q4, by simp; omega, q6, by simp; omega⟩
  rw [allTo_iff] at q1 ⊢
  intro i hi
  simp at hi
  by_cases e : i < s.sent.length
  · have := q1 i e
    simp only [partAt] at this ⊢
    rw [nth_append_lt e, List.take_append_of_le_length (by omega)]
    exact this
  · obtain rfl : i = s.sent.length := by omega
    simp only [partAt]
    rw [nth_append_len, List.take_left' rfl]
    have hts : 0 ≤ d.tsn ∧ d.tsn ≤ 65535 := by simp [Part.ok, inS] at hd; omega
    have := addS_back hts h1
    simp [hd, h2, h3, ← this]

theorem with_ok {x : Assoc} (h : x.ok = true) (byB : Bool) {s : Side} (hs : s.ok = true) (ht : s.tag = (x.side byB).tag) (h3 : 3 ≤ x.state) : (x.with byB s).ok = true := by
  obtain ⟨h1, h2, h3, h4, h5, h6, h7, h8, h9, h10⟩ := (assoc_iff x).1 h
  rw [assoc_iff]
  cases byB <;> simp [Assoc.with, Assoc.side] at ht ⊢
  · exact ⟨h1, h2, h3, h4, hs, h6, by omega, by omega, by omega, h10⟩
  · exact ⟨h1, h2, h3, h4, h5, hs, by omega, by omega, by omega, h10⟩

theorem side_tag {x : Assoc} (h : x.ok = true) (byB : Bool) (h3 : 3 ≤ x.state) (h6 : x.state ≤ 6) : (x.side byB).tag ≠ 0 ∧ (x.other byB).tag ≠ 0 := by
  obtain ⟨-, -, -, h4, -, -, h7, h8, -⟩ := (assoc_iff x).1 h
  cases byB <;> simp [Assoc.side, Assoc.other] <;> omega

theorem stepPart_ok {x : Assoc} (h : x.ok = true) (byB : Bool) (c : Chunk) : (stepPart x byB c).1.ok = true := by
  unfold stepPart
  simp only
  split
  · exact h
  · split
    · exact h
    · rename_i q0 _ d hd
      obtain ⟨k1, k2⟩ := getPart_ok hd
      have hk : 0 ≤ addS d.tsn (-(x.side byB).first) := by unfold addS; omega
      repeat' split
      all_goals (try exact h)
      rename_i r1 r2 r3 r4 r5 r6
      have hst : 3 ≤ x.state ∧ x.state ≤ 6 := by
        rcases Classical.em (x.state = 4) with e | e
        · omega
        · rcases Classical.em (x.state = 3) with e2 | e2
          · omega
          · exact absurd (by simp [e, e2]) r2
      have ht := (side_tag h byB hst.1 hst.2).1
      refine with_ok h byB (side_snoc (Assoc.ok_side h byB).1 ht k1 (by omega) (by omega) ?_ (by omega)) rfl hst.1
      cases e : followS (x.side byB).sent d
      · exact absurd e r5
      · rfl

def mostG (fin : Int) (l : List (Int × Int)) : Int := match l.getLast? with
  | some g => fin + g.2
  | none => fin
theorem stepSack_eq (x : Assoc) (byB : Bool) (c : Chunk) : stepSack x byB c = ((if ¬ (4 ≤ x.state ∧ x.state ≤ 5) then (x, 3) else
  match getSack c with
  | none => (x, 4)
  | some k => if ¬ (0 ≤ diffS (addS (x.other byB).first (-1)) k.cum ∧ diffS (addS (x.other byB).first (-1)) k.cum ≤ (x.other byB).sent.length) ∨ mostG (diffS (addS (x.other byB).first (-1)) k.cum) k.gaps > (x.other byB).sent.length then (x, 9) else
    (x.with (!byB) { x.other byB with acked := max (x.other byB).acked (diffS (addS (x.other byB).first (-1)) k.cum) }, 0)) : Assoc × Int) := rfl

theorem stepSack_ok {x : Assoc} (h : x.ok = true) (byB : Bool) (c : Chunk) : (stepSack x byB c).1.ok = true := by
  rw [stepSack_eq]
  by_cases q0 : 4 ≤ x.state ∧ x.state ≤ 5
  · rw [if_neg (by omega)]
    cases getSack c with
    | none => exact h
    | some k =>
      simp only
      split
      · exact h
      · have hs := (Assoc.ok_side h byB).2
        have ht := (side_tag h byB (by omega) (by omega)).2
        obtain ⟨r1, r2, r3, r4, r5, r6, r7⟩ := (side_iff ht).1 hs
        have hoo : x.side (!byB) = x.other byB := by cases byB <;> rfl
        refine with_ok h (!byB) ((side_iff (by exact ht)).2 ⟨r1, r2, r3, r4, r5, ?_, ?_⟩) (by rw [hoo]) (by omega)
        · simp only; omega
        · simp only; omega
  · rw [if_pos q0]; exact h

theorem state_ok {x : Assoc} (h : x.ok = true) {s : Int} {w : Bool} (h1 : 1 ≤ x.state) (h2 : s ≤ 7) (h3 : x.state ≤ s) (h4 : s = 7 ∨ 2 ≤ x.state) (hw : w = true → 5 ≤ s) : ({ x with state := s, byB := w } : Assoc).ok = true := by
  obtain ⟨q1, q2, q3, q4, q5, q6, q7, q8, q9, q10⟩ := (assoc_iff x).1 h
  rw [assoc_iff]
  exact ⟨q1, q2, q3, by simp only; omega, q5, q6, by simp only; omega, by simp only; omega, by simp only; omega, hw⟩

theorem stepEnd_ok {x : Assoc} (h : x.ok = true) (byB : Bool) (k : Int) : (stepEnd x byB k).1.ok = true := by
  have h10 := ((assoc_iff x).1 h).2.2.2.2.2.2.2.2.2
  unfold stepEnd
  simp only
  repeat' split
  all_goals first
    | exact h
    | exact state_ok h (by omega) (by omega) (by omega) (by omega) (by intro e; first | omega | (have := h10 e; omega))

theorem stepCookie_ok {x : Assoc} (h : x.ok = true) (byB : Bool) (k : Int) : (stepCookie x byB k).1.ok = true := by
  have h10 := ((assoc_iff x).1 h).2.2.2.2.2.2.2.2.2
  unfold stepCookie
  repeat' split
  all_goals first
    | exact h
    | exact state_ok h (by omega) (by omega) (by omega) (by omega) (by intro e; have := h10 e; omega)

theorem stepC_ok {x : Assoc} (h : x.ok = true) (byB : Bool) (c : Chunk) : (stepC x byB c).1.ok = true := by
  unfold stepC
  repeat' split
  · exact stepHello_ok h byB c
  · exact stepPart_ok h byB c
  · exact stepSack_ok h byB c
  · exact stepEnd_ok h byB _
  · exact stepCookie_ok h byB _

theorem stepC_rule (x : Assoc) (byB : Bool) (c : Chunk) : 0 ≤ (stepC x byB c).2 ∧ (stepC x byB c).2 ≤ 11 := by
  unfold stepC
  split
  · unfold stepHello; simp only; repeat' split
    all_goals (refine ⟨?_, ?_⟩ <;> simp)
  · split
    · unfold stepPart; simp only; repeat' split
      all_goals (refine ⟨?_, ?_⟩ <;> simp)
    · split
      · rw [stepSack_eq]
        split
        · refine ⟨?_, ?_⟩ <;> simp
        · cases getSack c with
          | none => simp
          | some k => simp only; split <;> simp
      · split
        · unfold stepEnd; simp only; repeat' split
          all_goals (refine ⟨?_, ?_⟩ <;> simp)
        · unfold stepCookie; repeat' split
          all_goals (refine ⟨?_, ?_⟩ <;> simp)

theorem stepAll_ok (byB : Bool) : ∀ (l : List Chunk) {x : Assoc} (r : List Int), x.ok = true → (stepAll byB l x r).1.ok = true
  | [], x, r, h => h
  | c :: l, x, r, h => stepAll_ok byB l _ (stepC_ok h byB c)

end

section
set_option maxRecDepth 200000
set_option maxHeartbeats 8000000
attribute [-simp] List.getD_eq_getElem?_getD


end

section
set_option maxRecDepth 200000
set_option maxHeartbeats 2000000
attribute [-simp] List.getD_eq_getElem?_getD


def boolsV (f : Nat → Bool) : List V := (List.range 12).map fun k => V.bool (f k)
end

section
set_option maxRecDepth 200000
set_option maxHeartbeats 8000000
attribute [-simp] List.getD_eq_getElem?_getD


section
variable {st : St} {p : Nat} {src : List UInt8} {a : Int} {d : AD} {rs : List AOp} {k : List It} {Q : AE → St → Prop}
end

section
variable {st : St} {p : Nat} {src : List UInt8} {a : Int} {d : AD} {rs : List AOp} {k : List It} {Q : AE → St → Prop}
end
end

section
set_option maxRecDepth 200000
set_option maxHeartbeats 8000000
attribute [-simp] List.getD_eq_getElem?_getD


inductive MnR (n : Nat) : V → List (List V) → Prop
  | mk (t : List UInt8) (h : t.length = n) : MnR n (.str t) []

inductive ChR (src : List UInt8) (a k : Int) : V → List (List V) → Prop
  | mk (n m : Int) (t : List UInt8) (b : Int) (h : t.length ≤ 1000) (hb : a ≤ b ∧ b ≤ a + k) : ChR src a k (.agg [.int .i64 n, .int .i64 m, .str t]) [[bsl src, .int .i64 b]]

section
variable {st : St} {p : Nat} {src : List UInt8} {a : Int} {d : AD} {rs : List AOp} {k : List It} {Q : AE → St → Prop}
end


inductive PtR (src : List UInt8) (a k : Int) : V → List (List V) → Prop
  | mk (t s n : Int) (f l o : Bool) (x : List UInt8) (b : Int) (h : x.length ≤ 1000) (hb : a ≤ b ∧ b ≤ a + k) : PtR src a k (.agg [.int .i64 t, .int .i64 s, .int .i64 n, .bool f, .bool l, .bool o, .str x]) [[bsl src, .int .i64 b]]

section
variable {st : St} {p : Nat} {src : List UInt8} {a : Int} {d : AD} {rs : List AOp} {k : List It} {Q : AE → St → Prop}
end


inductive HiR (src : List UInt8) (a k : Int) : V → List (List V) → Prop
  | mk (t w s n b : Int) (hb : a ≤ b ∧ b ≤ a + k) : HiR src a k (.agg [.int .i64 t, .int .i64 w, .int .i64 s, .int .i64 n]) [[bsl src, .int .i64 b]]
end

section
set_option maxRecDepth 200000
set_option maxHeartbeats 4000000
attribute [-simp] List.getD_eq_getElem?_getD

def sliceB (s : List UInt8) (a b : Nat) : List UInt8 := (s.take b).drop a

def zerosB (l : List UInt8) : Bool := l.all fun b => decide (b = 0)

def chunkOf (s : List UInt8) (i n : Nat) : Chunk := ⟨(nth s i).toNat, (nth s (i + 1)).toNat, sliceB s (i + 4) (i + n)⟩

/-- The chunk at a place, and the place behind it. -/
def chunkAt (s : List UInt8) (i : Nat) : Option (Chunk × Nat) :=
  if i + 4 ≤ s.length ∧ (4 ≤ at16 s (i + 2) ∧ at16 s (i + 2) ≤ 64) ∧ i + ((at16 s (i + 2)).toNat + 3) / 4 * 4 ≤ s.length ∧ zerosB (sliceB s (i + (at16 s (i + 2)).toNat) (i + ((at16 s (i + 2)).toNat + 3) / 4 * 4)) = true
  then some (chunkOf s i (at16 s (i + 2)).toNat, i + ((at16 s (i + 2)).toNat + 3) / 4 * 4) else none

end

section
set_option maxRecDepth 200000
set_option maxHeartbeats 4000000
attribute [-simp] List.getD_eq_getElem?_getD

/-- The chunks from a place on. -/
def chunksAt (s : List UInt8) : Nat → Nat → List Chunk → Option (List Chunk)
  | 0, _, acc => some acc
  | f + 1, i, acc => if i < s.length then (match chunkAt s i with
    | none => none
    | some (c, j) => chunksAt s f j (acc ++ [c])) else some acc

def packOf (s : List UInt8) (cs : List Chunk) : Packet := ⟨at16 s 0, at16 s 2, at32 s 4, cs⟩

/-- The packet that bytes hold, and what they are. -/
def getP (s : List UInt8) : Packet × Int :=
  if s.length < 12 then (zPacket, 1) else
  if at32 s 8 ≠ sumP s then (zPacket, 2) else
  match chunksAt s s.length 12 [] with
  | none => (zPacket, 3)
  | some cs => if (packOf s cs).ok then (packOf s cs, 0) else (zPacket, 3)

end

section
set_option maxRecDepth 200000
set_option maxHeartbeats 4000000
attribute [-simp] List.getD_eq_getElem?_getD

/-- A packet that was drawn. -/
inductive PkR (src : List UInt8) (a k : Int) : V → List (List V) → Prop
  | mk (p : Packet) (b : Int) (h : p.chunks.length ≤ 9) (h2 : ∀ c ∈ p.chunks, c.body.length ≤ 1000) (hb : a ≤ b ∧ b ≤ a + k) : PkR src a k p.v [[bsl src, .int .i64 b]]

end

section
set_option maxRecDepth 200000
set_option maxHeartbeats 4000000
attribute [-simp] List.getD_eq_getElem?_getD


theorem stepHello_F {x : Assoc} {c : Chunk} (hx : x.ok = true) (hk : c.kind = 1 ∨ c.kind = 2) : stepHello x false c = ((if c.kind = 2 then (x, 3) else if ¬ (0 ≤ x.state ∧ x.state ≤ 2) then (x, 3) else
    match getHello c with
    | none => (x, 4)
    | some h => if x.state = 0 then ({ x with state := 1, a := ⟨h.tag, h.streams, h.tsn, x.a.sent, x.a.acked⟩ }, 0) else if h.tag ≠ x.a.tag ∨ h.streams ≠ x.a.streams ∨ h.tsn ≠ x.a.first then (x, 7) else (x, 0)) : Assoc × Int) := by
  have hs := Assoc.ok_state hx
  obtain ⟨-, -, -, -, h5, -, h7, -⟩ := (assoc_iff x).1 hx
  have ht := Side.ok_tag h5
  by_cases k2 : c.kind = 2
  · rw [if_pos k2]; simp [stepHello, k2]
  · have k1 : c.kind = 1 := by omega
    rw [if_neg k2]
    by_cases q : 0 ≤ x.state ∧ x.state ≤ 2
    · rw [if_neg (by simpa using q)]
      by_cases q0 : x.state = 0
      · obtain ⟨-, -, z3, z4⟩ := (side_zero (s := x.a) (by omega)).1 h5
        cases hg : getHello c <;> simp [stepHello, k1, q0, hg, Assoc.with, Assoc.side, z3, z4]
      · rcases (by omega : x.state = 1 ∨ x.state = 2) with q1 | q1 <;> cases hg : getHello c <;> simp [stepHello, k1, q1, hg, Assoc.side]
    · rw [if_pos q]; simp [stepHello, k1]; intros; omega

theorem stepHello_T {x : Assoc} {c : Chunk} (hx : x.ok = true) (hk : c.kind = 1 ∨ c.kind = 2) : stepHello x true c = ((if ¬ c.kind = 2 then (x, 3) else if ¬ (1 ≤ x.state ∧ x.state ≤ 2) then (x, 3) else
    match getHello c with
    | none => (x, 4)
    | some h => if x.state = 1 then ({ x with state := 2, b := ⟨h.tag, h.streams, h.tsn, x.b.sent, x.b.acked⟩ }, 0) else if h.tag ≠ x.b.tag ∨ h.streams ≠ x.b.streams ∨ h.tsn ≠ x.b.first then (x, 7) else (x, 0)) : Assoc × Int) := by
  have hs := Assoc.ok_state hx
  obtain ⟨-, -, -, -, -, h5, -, h7, -⟩ := (assoc_iff x).1 hx
  have ht := Side.ok_tag h5
  by_cases k2 : c.kind = 2
  · rw [if_neg (by omega)]
    by_cases q : 1 ≤ x.state ∧ x.state ≤ 2
    · rw [if_neg (by simpa using q)]
      by_cases q0 : x.state = 1
      · obtain ⟨-, -, z3, z4⟩ := (side_zero (s := x.b) (by omega)).1 h5
        cases hg : getHello c <;> simp [stepHello, k2, q0, hg, Assoc.with, Assoc.side, z3, z4]
      · have q1 : x.state = 2 := by omega
        cases hg : getHello c <;> simp [stepHello, k2, q1, hg, Assoc.side]
    · rw [if_pos q]; simp [stepHello, k2]; intros; omega
  · rw [if_pos k2]; simp [stepHello, k2]
end

end Go.Proofs.YtnhhcfbigjpfeaaDoor
