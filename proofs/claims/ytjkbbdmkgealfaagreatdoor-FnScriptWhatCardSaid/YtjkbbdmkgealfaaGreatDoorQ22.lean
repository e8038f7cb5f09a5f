/-
  A chunk keeps an association valid.
  One chunk, by the reference.
  A packet, by the reference.
  Draws of chunks, parts and packets.
  Draws of chunks and parts.
-/
import Derived.Test.YtjkbbdmkgealfaaGreatDoorQ21
namespace Go.Proofs.YtjkbbdmkgealfaaGreatDoor
set_option linter.all false
section
set_option maxRecDepth 200000
set_option maxHeartbeats 1000000
attribute [-simp] List.getD_eq_getElem?_getD
theorem side_iff {s : Side} (h : s.tag ≠ 0) : s.ok = true ↔ (allTo (partAt s) s.sent.length = true ∧ (1 ≤ s.tag ∧ s.tag ≤ 4294967295) ∧ (1 ≤ s.streams ∧ s.streams ≤ 4) ∧ (0 ≤ s.first ∧ s.first ≤ 65535) ∧ s.sent.length ≤ 12 ∧ 0 ≤ s.acked ∧ s.acked ≤ s.sent.length) := by
  rw [sideTag s h]
  simp only [inB, inS, Bool.and_eq_true, decide_eq_true_eq]
  constructor
  · rintro ⟨⟨⟨⟨⟨h1, h2⟩, h3⟩, h4⟩, h5⟩, h6⟩
    exact ⟨h1, by omega, by omega, by omega, h5, by omega⟩
  · rintro ⟨h1, h2, h3, h4, h5, h6⟩
    exact ⟨⟨⟨⟨⟨h1, by omega⟩, by omega⟩, by omega⟩, h5⟩, by omega⟩
theorem Side.ok_tag {s : Side} (h : s.ok = true) : 0 ≤ s.tag := by
  by_cases q : s.tag = 0
  · omega
  · have := (side_iff q).1 h; omega
theorem side_zero {s : Side} (h : s.tag = 0) : s.ok = true ↔ (s.streams = 0 ∧ s.first = 0 ∧ s.sent = [] ∧ s.acked = 0) := by
  unfold Side.ok; rw [if_pos h]; simp [and_assoc]
theorem Side.ok_first {s : Side} (h : s.ok = true) : (0 ≤ s.first ∧ s.first ≤ 65535) ∧ s.sent.length ≤ 12 ∧ 0 ≤ s.acked ∧ s.acked ≤ s.sent.length := by
  by_cases q : s.tag = 0
  · obtain ⟨-, h2, h3, h4⟩ := (side_zero q).1 h
    rw [h2, h3, h4]; simp
  · obtain ⟨-, -, -, h4, h5, h6⟩ := (side_iff q).1 h
    exact ⟨h4, h5, h6⟩
theorem Side.ok_bd {s : Side} (h : s.ok = true) : s.bd := by
  have := s.ok_first h
  exact ⟨by omega, by omega⟩
theorem Assoc.ok_bd {x : Assoc} (h : x.ok = true) : x.bd := by
  obtain ⟨-, -, -, -, h5, h6, -⟩ := (assoc_iff x).1 h
  exact ⟨Side.ok_bd h5, Side.ok_bd h6⟩
theorem Assoc.ok_side {x : Assoc} (h : x.ok = true) (byB : Bool) : (x.side byB).ok = true ∧ (x.other byB).ok = true := by
  obtain ⟨-, -, -, -, h5, h6, -⟩ := (assoc_iff x).1 h
  cases byB <;> exact ⟨‹_›, ‹_›⟩
theorem Assoc.ok_state {x : Assoc} (h : x.ok = true) : 0 ≤ x.state ∧ x.state ≤ 7 := by
  obtain ⟨-, -, -, h4, -⟩ := (assoc_iff x).1 h
  exact h4
theorem getHello_ok {c : Chunk} {d : Hello} (h : getHello c = some d) : d.ok = true := by
  unfold getHello at h
  split at h
  · split at h
    · rename_i h2
      obtain rfl : c.hello = d := by simpa using h
      exact h2
    · cases h
  · cases h
theorem newSide_ok {h : Hello} (hh : h.ok = true) : (⟨h.tag, h.streams, h.tsn, [], 0⟩ : Side).ok = true ∧ 0 < h.tag := by
  simp [Hello.ok, inB, inS] at hh
  have : h.tag ≠ 0 := by omega
  refine ⟨(side_iff (by exact this)).2 ⟨rfl, by simp only; omega, by simp only; omega, by simp only; omega, by simp, by simp, by simp⟩, by omega⟩
theorem stepHello_ok {x : Assoc} (h : x.ok = true) (byB : Bool) (c : Chunk) : (stepHello x byB c).1.ok = true := by
  unfold stepHello
  simp only
  split
  · exact h
  · split
    · exact h
    · rename_i k d hd
      split
      · exact h
      · split
        · exact h
        · rename_i q0 q1 q2
          obtain ⟨k1, k2⟩ := newSide_ok (getHello_ok hd)
          have q := (assoc_iff x).1 h
          obtain ⟨h1, h2, h3, h4, h5, h6, h7, h8, h9, h10⟩ := q
          have hb0 : x.byB = true → False := fun e => by have := h10 e; omega
          have hA := Side.ok_tag h5
          have hB := Side.ok_tag h6
          have hl : x.a.sent.length + x.b.sent.length ≤ 0 := by omega
          have hc : (x.state = 0 ∧ byB = false ∧ c.kind = 1) ∨ (x.state = 1 ∧ byB = true ∧ c.kind = 2) := by
            rcases Classical.em ((x.state = 0 ∧ byB = false ∧ c.kind = 1) ∨ (x.state = 1 ∧ byB = true ∧ c.kind = 2)) with e | e
            · exact e
            · exact absurd ⟨e, q2⟩ q0
          rcases hc with ⟨e1, e2, e3⟩ | ⟨e1, e2, e3⟩
          · subst e2
            have htb : ¬ 0 < x.b.tag := by omega
            show ({ x with state := x.state + 1, a := ⟨d.tag, d.streams, d.tsn, [], 0⟩ } : Assoc).ok = true
            rw [assoc_iff]
            refine ⟨h1, h2, h3, by (first | omega | (simp only; omega)), k1, h6, by (first | omega | (simp only; omega)), by (first | omega | (simp only; omega)), Or.inr (by show 0 + x.b.sent.length ≤ 0; omega), fun e => (hb0 e).elim⟩
          · subst e2
            show ({ x with state := x.state + 1, b := ⟨d.tag, d.streams, d.tsn, [], 0⟩ } : Assoc).ok = true
            rw [assoc_iff]
            refine ⟨h1, h2, h3, by (first | omega | (simp only; omega)), h5, k1, by (first | omega | (simp only; omega)), by (first | omega | (simp only; omega)), Or.inr (by show x.a.sent.length + 0 ≤ 0; omega), fun e => (hb0 e).elim⟩
theorem nth_append_lt {α : Type} [Inhabited α] {l r : List α} {i : Nat} (h : i < l.length) : nth (l ++ r) i = nth l i := by
  rw [nth_eq (by simp; omega), nth_eq h, List.getElem_append_left h]
theorem nth_append_len {α : Type} [Inhabited α] {l : List α} {x : α} : nth (l ++ [x]) l.length = x := by
  rw [nth_eq (by simp), List.getElem_append_right (by omega)]; simp
theorem addS_back {t f : Int} {n : Nat} (ht : 0 ≤ t ∧ t ≤ 65535) (h : addS t (-f) = n) : t = addS f n := by
  unfold addS at *; omega
theorem side_snoc {s : Side} {d : Part} (h : s.ok = true) (ht : s.tag ≠ 0) (hd : d.ok = true) (h1 : addS d.tsn (-s.first) = s.sent.length) (h2 : d.stream < s.streams) (h3 : followS s.sent d = true) (h4 : s.sent.length < 12) :
    ({ s with sent := s.sent ++ [d] } : Side).ok = true := by
  obtain ⟨q1, q2, q3, q4, q5, q6, q7⟩ := (side_iff ht).1 h
  refine (side_iff (by exact ht)).2 ⟨?_, q2, q3, q4, by simp; omega, q6, by simp; omega⟩
  rw [allTo_iff] at q1 ⊢
  intro i hi
  simp at hi
  by_cases e : i < s.sent.length
  · have := q1 i e
    simp only [partAt] at this ⊢
    rw [nth_append_lt e, List.take_append_of_le_length (by omega)]
    exact this
  · obtain rfl : i = s.sent.length := by omega
    simp only [partAt]
    rw [nth_append_len, List.take_left' rfl]
    have hts : 0 ≤ d.tsn ∧ d.tsn ≤ 65535 := by simp [Part.ok, inS] at hd; omega
    have := addS_back hts h1
    simp [hd, h2, h3, ← this]
theorem with_ok {x : Assoc} (h : x.ok = true) (byB : Bool) {s : Side} (hs : s.ok = true) (ht : s.tag = (x.side byB).tag) (h3 : 3 ≤ x.state) : (x.with byB s).ok = true := by
  obtain ⟨h1, h2, h3, h4, h5, h6, h7, h8, h9, h10⟩ := (assoc_iff x).1 h
  rw [assoc_iff]
  cases byB <;> simp [Assoc.with, Assoc.side] at ht ⊢
  · exact ⟨h1, h2, h3, h4, hs, h6, by omega, by omega, by omega, h10⟩
  · exact ⟨h1, h2, h3, h4, h5, hs, by omega, by omega, by omega, h10⟩
theorem side_tag {x : Assoc} (h : x.ok = true) (byB : Bool) (h3 : 3 ≤ x.state) (h6 : x.state ≤ 6) : (x.side byB).tag ≠ 0 ∧ (x.other byB).tag ≠ 0 := by
  obtain ⟨-, -, -, h4, -, -, h7, h8, -⟩ := (assoc_iff x).1 h
  cases byB <;> simp [Assoc.side, Assoc.other] <;> omega
theorem stepPart_ok {x : Assoc} (h : x.ok = true) (byB : Bool) (c : Chunk) : (stepPart x byB c).1.ok = true := by
  unfold stepPart
  simp only
  split
  · exact h
  · split
    · exact h
    · rename_i q0 _ d hd
      obtain ⟨k1, k2⟩ := getPart_ok hd
      have hk : 0 ≤ addS d.tsn (-(x.side byB).first) := by unfold addS; omega
      repeat' split
      all_goals (try exact h)
      rename_i r1 r2 r3 r4 r5 r6
      have hst : 3 ≤ x.state ∧ x.state ≤ 6 := by
        rcases Classical.em (x.state = 4) with e | e
        · omega
        · rcases Classical.em (x.state = 3) with e2 | e2
          · omega
          · exact absurd (by simp [e, e2]) r2
      have ht := (side_tag h byB hst.1 hst.2).1
      refine with_ok h byB (side_snoc (Assoc.ok_side h byB).1 ht k1 (by omega) (by omega) ?_ (by omega)) rfl hst.1
      cases e : followS (x.side byB).sent d
      · exact absurd e r5
      · rfl
def mostG (fin : Int) (l : List (Int × Int)) : Int := match l.getLast? with
  | some g => fin + g.2
  | none => fin
theorem stepSack_eq (x : Assoc) (byB : Bool) (c : Chunk) : stepSack x byB c = ((if ¬ (4 ≤ x.state ∧ x.state ≤ 5) then (x, 3) else
  match getSack c with
  | none => (x, 4)
  | some k => if ¬ (0 ≤ diffS (addS (x.other byB).first (-1)) k.cum ∧ diffS (addS (x.other byB).first (-1)) k.cum ≤ (x.other byB).sent.length) ∨ mostG (diffS (addS (x.other byB).first (-1)) k.cum) k.gaps > (x.other byB).sent.length then (x, 9) else
    (x.with (!byB) { x.other byB with acked := max (x.other byB).acked (diffS (addS (x.other byB).first (-1)) k.cum) }, 0)) : Assoc × Int) := rfl
theorem stepSack_ok {x : Assoc} (h : x.ok = true) (byB : Bool) (c : Chunk) : (stepSack x byB c).1.ok = true := by
  rw [stepSack_eq]
  by_cases q0 : 4 ≤ x.state ∧ x.state ≤ 5
  · rw [if_neg (by omega)]
    cases getSack c with
    | none => exact h
    | some k =>
      simp only
      split
      · exact h
      · have hs := (Assoc.ok_side h byB).2
        have ht := (side_tag h byB (by omega) (by omega)).2
        obtain ⟨r1, r2, r3, r4, r5, r6, r7⟩ := (side_iff ht).1 hs
        have hoo : x.side (!byB) = x.other byB := by cases byB <;> rfl
        refine with_ok h (!byB) ((side_iff (by exact ht)).2 ⟨r1, r2, r3, r4, r5, ?_, ?_⟩) (by rw [hoo]) (by omega)
        · simp only; omega
        · simp only; omega
  · rw [if_pos q0]; exact h
theorem state_ok {x : Assoc} (h : x.ok = true) {s : Int} {w : Bool} (h1 : 1 ≤ x.state) (h2 : s ≤ 7) (h3 : x.state ≤ s) (h4 : s = 7 ∨ 2 ≤ x.state) (hw : w = true → 5 ≤ s) : ({ x with state := s, byB := w } : Assoc).ok = true := by
  obtain ⟨q1, q2, q3, q4, q5, q6, q7, q8, q9, q10⟩ := (assoc_iff x).1 h
  rw [assoc_iff]
  exact ⟨q1, q2, q3, by simp only; omega, q5, q6, by simp only; omega, by simp only; omega, by simp only; omega, hw⟩
theorem stepEnd_ok {x : Assoc} (h : x.ok = true) (byB : Bool) (k : Int) : (stepEnd x byB k).1.ok = true := by
  have h10 := ((assoc_iff x).1 h).2.2.2.2.2.2.2.2.2
  unfold stepEnd
  simp only
  repeat' split
  all_goals first
    | exact h
    | exact state_ok h (by omega) (by omega) (by omega) (by omega) (by intro e; first | omega | (have := h10 e; omega))
theorem stepCookie_ok {x : Assoc} (h : x.ok = true) (byB : Bool) (k : Int) : (stepCookie x byB k).1.ok = true := by
  have h10 := ((assoc_iff x).1 h).2.2.2.2.2.2.2.2.2
  unfold stepCookie
  repeat' split
  all_goals first
    | exact h
    | exact state_ok h (by omega) (by omega) (by omega) (by omega) (by intro e; have := h10 e; omega)
theorem stepC_ok {x : Assoc} (h : x.ok = true) (byB : Bool) (c : Chunk) : (stepC x byB c).1.ok = true := by
  unfold stepC
  repeat' split
  · exact stepHello_ok h byB c
  · exact stepPart_ok h byB c
  · exact stepSack_ok h byB c
  · exact stepEnd_ok h byB _
  · exact stepCookie_ok h byB _
theorem stepC_rule (x : Assoc) (byB : Bool) (c : Chunk) : 0 ≤ (stepC x byB c).2 ∧ (stepC x byB c).2 ≤ 11 := by
  unfold stepC
  split
  · unfold stepHello; simp only; repeat' split
    all_goals (refine ⟨?_, ?_⟩ <;> simp)
  · split
    · unfold stepPart; simp only; repeat' split
      all_goals (refine ⟨?_, ?_⟩ <;> simp)
    · split
      · rw [stepSack_eq]
        split
        · refine ⟨?_, ?_⟩ <;> simp
        · cases getSack c with
          | none => simp
          | some k => simp only; split <;> simp
      · split
        · unfold stepEnd; simp only; repeat' split
          all_goals (refine ⟨?_, ?_⟩ <;> simp)
        · unfold stepCookie; repeat' split
          all_goals (refine ⟨?_, ?_⟩ <;> simp)
theorem stepAll_ok (byB : Bool) : ∀ (l : List Chunk) {x : Assoc} (r : List Int), x.ok = true → (stepAll byB l x r).1.ok = true
  | [], x, r, h => h
  | c :: l, x, r, h => stepAll_ok byB l _ (stepC_ok h byB c)
theorem stepAll_snoc (byB : Bool) (c : Chunk) : ∀ (l : List Chunk) (x : Assoc) (r : List Int), stepAll byB (l ++ [c]) x r = ((stepC (stepAll byB l x r).1 byB c).1, (stepAll byB l x r).2 ++ [(stepC (stepAll byB l x r).1 byB c).2])
  | [], x, r => rfl
  | d :: l, x, r => stepAll_snoc byB c l _ _
end
section
set_option maxRecDepth 200000
set_option maxHeartbeats 8000000
attribute [-simp] List.getD_eq_getElem?_getD
theorem res_v (r : Assoc × Int) : resC r = .tup [.agg [.int .i64 r.1.src, .int .i64 r.1.dst, .int .i64 r.1.state, .bool r.1.byB, .int .i64 r.1.a.tag, .int .i64 r.1.a.streams, .int .i64 r.1.a.first, .sl none 7 (r.1.a.sent.map Part.v), .int .i64 r.1.a.acked, .int .i64 r.1.b.tag, .int .i64 r.1.b.streams, .int .i64 r.1.b.first, .sl none 7 (r.1.b.sent.map Part.v), .int .i64 r.1.b.acked], .int .i64 r.2] := rfl
theorem l31Chunk_ok (x : Assoc) (byB : Bool) (c : Chunk) (hb : c.body.length ≤ 1000000) (hx : x.ok = true) : Fn Tryz.prog fn_spec_l31Chunk [x.v, .bool byB, c.v] [] (resC (stepC x byB c)) [] := by
  refine Fn.of_go ln_spec_l31Chunk rfl ?_
  have hs := Assoc.ok_state hx
  have f1 := l31Init_ok x byB c hb hs
  have f2 := l31Data_ok x byB c hb hs (Assoc.ok_bd hx)
  have f3 := l31Sack_ok x byB c hb ⟨(Side.ok_first (Assoc.ok_side hx byB).2).1, by have := (Side.ok_first (Assoc.ok_side hx byB).2).2; omega⟩
  have f4 := l31End_ok x byB c.kind hs
  have f5 := l31Cookie_ok x byB c.kind hs
  simp only [assoc_v, chunk_v, res_v] at f1 f2 f3 f4 f5
  simp only [stepC, assoc_v, chunk_v]
  repeat' split
  all_goals
    simp [ac_spec_l31Chunk]
    repeat' (first
      | (exfalso; omega)
      | (refine goTest_dec (fun q => ?_) (fun q => ?_) <;> simp [q])
      | (refine goCall_eq f1 (by simp) ?_; simp)
      | (refine goCall_eq f2 (by simp) ?_; simp)
      | (refine goCall_eq f3 (by simp) ?_; simp)
      | (refine goCall_eq f4 (by simp) ?_; simp)
      | (refine goCall_eq f5 (by simp) ?_; simp)
      | (rw [‹c.kind = _›] at f1 f2 f3 f4 f5; refine goCall_eq f1 (by simp) ?_; simp)
      | (rw [‹c.kind = _›] at f1 f2 f3 f4 f5; refine goCall_eq f2 (by simp) ?_; simp)
      | (rw [‹c.kind = _›] at f1 f2 f3 f4 f5; refine goCall_eq f3 (by simp) ?_; simp)
      | (rw [‹c.kind = _›] at f1 f2 f3 f4 f5; refine goCall_eq f4 (by simp) ?_; simp)
      | (refine Ends.mk [] [] ?_; simp [res_v] <;> fail))
theorem l31Tag_ok (x : Assoc) (byB : Bool) (p : Packet) (hp : p.chunks.length ≤ 1000000) : Fn Tryz.prog fn_spec_l31Tag [x.v, .bool byB, p.v] [] (.int .i64 (tagS x byB p)) [] := by
  refine Fn.of_go ln_spec_l31Tag rfl ?_
  have f2 := l31Side_ok x byB
  simp only [assoc_v, side_v] at f2
  simp [ac_spec_l31Tag, assoc_v, Packet.v, Packet.cells, csl]
  refine go_loop (fun i => { env := [(1, .bool byB), (3, .ptr 3 0), (5, .ptr 5 0), (7, .int .i64 (i : Nat))], loc := [], box := [(5, [.undef, .undef, .undef, csl p.chunks]), (3, x.cells)], stat := [] }) (fun i => i ≤ p.chunks.length ∧ ∀ j, j < i → (nth p.chunks j).kind ≠ 1) (fun i => p.chunks.length - i) 0 ⟨by omega, by omega⟩ (Weak.of [] [(3, 3), (5, 5)] (by simp [csl, Assoc.cells, Side.cells, psl])) ?_
  rintro i ⟨hi, hno⟩
  simp [csl, Assoc.cells, Side.cells, psl]
  refine goTest_dec (fun hlt => ?_) (fun hge => ?_)
  · simp [hlt, chunk_v]
    refine goTest_dec (fun q => ?_) (fun q => ?_)
    · have e : tagS x byB p = 0 := by
        unfold tagS; rw [if_pos]
        exact List.any_eq_true.2 ⟨_, nth_mem hlt, by simp [q]⟩
      rw [e]
      simp
      exact Ends.mk [] [] (by simp)
    · simp
      refine ⟨by omega, ?_⟩
      refine Again.mk (i + 1) ⟨hlt, fun j hj => ?_⟩ (by omega) (Weak.of [] [(3, 3), (5, 5)] (by simp [csl, Assoc.cells, Side.cells, psl]))
      rcases Nat.lt_succ_iff_lt_or_eq.1 hj with h | rfl
      · exact hno j h
      · exact q
  · obtain rfl : i = p.chunks.length := by omega
    have e : tagS x byB p = (x.other byB).tag := by
      unfold tagS; rw [if_neg]
      intro h
      obtain ⟨c, hc, hk⟩ := List.any_eq_true.1 h
      obtain ⟨j, hj, rfl⟩ := List.getElem_of_mem hc
      have := hno j hj
      rw [nth_eq hj] at this
      exact this (by simpa using hk)
    rw [e]
    simp
    refine goCall_eq f2 (by simp) ?_
    simp
    exact Ends.mk [] [] (by simp)
end
section
set_option maxRecDepth 200000
set_option maxHeartbeats 2000000
attribute [-simp] List.getD_eq_getElem?_getD
def boolsV (f : Nat → Bool) : List V := (List.range 12).map fun k => V.bool (f k)
theorem boolsV_len (f : Nat → Bool) : (boolsV f).length = 12 := by simp [boolsV]
theorem setEl_bool {f : Nat → Bool} {i : Nat} {b : Bool} (h : i < 12) : setEl i 0 [.bool b] (boolsV f) = boolsV (fun k => if k = i then b else f k) := by
  unfold setEl
  have e : wrEl 0 [V.bool b] ((boolsV f).getD i .undef) = .bool b := by
    rw [show (boolsV f).getD i .undef = .bool (f i) by simp [boolsV, List.getD_eq_getElem?_getD, h]]
    rfl
  rw [e]
  refine List.ext_getElem (by simp [boolsV]) fun k h1 h2 => ?_
  simp [boolsV] at h1 ⊢
  rw [List.getElem_set]
  by_cases q : i = k
  · simp [q]
  · rw [if_neg q, if_neg (fun e => q e.symm)]; simp
theorem getD_bool {f : Nat → Bool} {i : Nat} (h : i < 12) : (boolsV f).getD i .undef = .bool (f i) := by
  simp [boolsV, List.getD_eq_getElem?_getD, h]
def brok0 (x : Assoc) (byB : Bool) (p : Packet) (k : Nat) : Bool := (decide (k = 1) && !p.alone) || (decide (k = 2) && decide (p.tag ≠ tagS x byB p))
def brokS (x : Assoc) (byB : Bool) (p : Packet) (r : List Int) (k : Nat) : Bool := brok0 x byB p k || decide ((k : Int) ∈ r)
theorem packet_v (p : Packet) : p.v = .agg [.int .i64 p.src, .int .i64 p.dst, .int .i64 p.tag, .sl none 3 (p.chunks.map Chunk.v)] := rfl
theorem l31Step_ok (x : Assoc) (byB : Bool) (p : Packet) (hx : x.ok = true) (hp : p.ok = true) : Fn Tryz.prog fn_spec_l31Step [x.v, .bool byB, p.v] []
    (.tup [(stepAll byB p.chunks x []).1.v, .sl none 1 (boolsV (brokS x byB p (stepAll byB p.chunks x []).2))]) [] := by
  refine Fn.of_go ln_spec_l31Step rfl ?_
  have hl : p.chunks.length ≤ 4 := by simp [Packet.ok, inB] at hp; omega
  have hbody : ∀ c ∈ p.chunks, c.body.length ≤ 1000000 := by
    intro c hc
    simp [Packet.ok] at hp
    have := hp.1.1.1.1.1 c hc
    simp [Chunk.ok] at this
    omega
  have f1 := spec_PacketAlone_ok p (by omega)
  have f2 := l31Tag_ok x byB p (by omega)
  simp only [assoc_v, packet_v] at f1 f2
  simp [ac_spec_l31Step, assoc_v, packet_v]
  refine ⟨by unfold roomOk; omega, ?_⟩
  refine goCall_eq f1 (by simp) ?_
  simp
  refine goDCall_eq f2 (by simp) (by simp) ?_
  simp [setEl, wrEl]
  refine go_loop (fun i => { env := [(1, .bool byB), (3, .ptr 3 0), (5, .ptr 5 0), (6, .ptr 6 0), (8, .sl (some 0) 1 (boolsV (brokS x byB p (stepAll byB (p.chunks.take i) x []).2))), (9, .ptr 9 0), (10, .int .i64 (i : Nat))], loc := [], box := [(3, x.cells), (5, p.cells), (6, (List.replicate 14 .undef)), (9, (stepAll byB (p.chunks.take i) x []).1.cells)], stat := [(0, some (.own 12 1))] }) (fun i => i ≤ p.chunks.length) (fun i => p.chunks.length - i) 0 (by omega)
      (Weak.of [(0, some 208, 12, 1)] [(3, 3), (5, 5), (6, 6), (9, 9)] (by simp [csl, Assoc.cells, Side.cells, psl, Packet.cells, boolsV, brokS, stepAll, brok0, List.range, List.range.loop, setEl, wrEl, List.replicate])) ?_
  intro i hi
  have hok := stepAll_ok byB (p.chunks.take i) [] hx
  simp [csl, Assoc.cells, Side.cells, psl, Packet.cells, boolsV_len]
  refine goTest_dec (fun hlt => ?_) (fun hge => ?_)
  · have hsn := stepAll_snoc byB (nth p.chunks i) (p.chunks.take i) x []
    rw [← take_nth hlt] at hsn
    generalize hy : stepAll byB (p.chunks.take i) x [] = y at *
    have f3 := l31Chunk_ok y.1 byB (nth p.chunks i) (hbody _ (nth_mem hlt)) hok
    have hr := stepC_rule y.1 byB (nth p.chunks i)
    simp only [assoc_v, chunk_v, res_v] at f3
    simp [hlt, chunk_v]
    refine goDCall_eq f3 (by simp) (by simp) ?_
    simp [boolsV_len]
    generalize stepC y.1 byB (nth p.chunks i) = z at *
    obtain ⟨z1, z2⟩ := z
    obtain ⟨n, rfl⟩ : ∃ n : Nat, z2 = n := ⟨z2.toNat, by simp at hr; omega⟩
    simp at hr
    have hn : n < 12 := by omega
    have hfe : (fun k => decide (k = n) || brokS x byB p y.2 k) = brokS x byB p (y.2 ++ [(n : Int)]) := by
      funext k
      simp only [brokS]
      by_cases q : k = n
      · simp [q]
      · have e : ((k : Int) ∈ y.2 ++ [(n : Int)]) ↔ ((k : Int) ∈ y.2) := by simp; omega
        simp [e, q]
    simp [hn, boolsV_len, setEl_bool hn]
    rw [hfe]
    refine ⟨by omega, Again.mk (i + 1) hlt (by omega) (Weak.of [(0, some 0, 12, 1)] [(3, 3), (5, 5), (6, 6), (9, 9)] ?_)⟩
    simp [hsn]
  · obtain rfl : i = p.chunks.length := by omega
    simp
    exact Ends.mk [] [] (by simp [assoc_v])
def marks (f : Nat → Bool) (n : Nat) : List Nat := (List.range n).filter fun k => decide (1 ≤ k) && f k
theorem marks_succ (f : Nat → Bool) (n : Nat) : marks f (n + 1) = marks f n ++ (if 1 ≤ n ∧ f n = true then [n] else []) := by
  unfold marks
  rw [List.range_succ, List.filter_append]
  congr 1
  by_cases q : 1 ≤ n ∧ f n = true
  · rw [if_pos q]; simp [q.1, q.2]
  · rw [if_neg q]
    have : (decide (1 ≤ n) && f n) = false := by
      rw [Bool.eq_false_iff]; simp; intro h; cases e : f n <;> simp_all
    simp [this]
theorem marks_len (f : Nat → Bool) (n : Nat) : (marks f n).length ≤ n := by
  have := List.length_filter_le (fun k => decide (1 ≤ k) && f k) (List.range n)
  simpa [marks] using this
def nV (n : Nat) : V := .int .i64 n
def iV (n : Int) : V := .int .i64 n
def isl (l : List Int) : V := .sl none 1 (l.map iV)
theorem rulesS_marks (x : Assoc) (byB : Bool) (p : Packet) : rulesS x byB p = (marks (brokS x byB p (stepAll byB p.chunks x []).2) 12).map fun k : Nat => (k : Int) := by
  unfold rulesS marks
  rw [List.filter_map]
  congr 1
theorem spec_AssocStep_ok (x : Assoc) (p : Packet) (hx : x.bd) (hp : p.chunks.length ≤ 1000000) : Fn Tryz.prog fn_spec_AssocStep [x.v, p.v] [] (.tup [(stepS x p).1.v, isl (stepS x p).2]) [] := by
  refine Fn.of_go ln_spec_AssocStep rfl ?_
  have f1 := spec_AssocValid_ok x hx
  have f2 := spec_PacketValid_ok p hp
  have key : ∀ b, byBS x p = b → x.ok = true → p.ok = true → (b = true ∨ (p.src = x.src ∧ p.dst = x.dst)) → stepS x p = (if rulesS x b p = [] then ((stepAll b p.chunks x []).1, []) else (x, rulesS x b p)) := by
    intro b hb h1 h2 h3
    subst hb
    unfold stepS
    rw [if_pos]
    simp [mineS, h1, h2]
    rcases h3 with h3 | h3
    · left; exact h3
    · right; exact h3
  have bad : (x.ok = false ∨ p.ok = false ∨ ¬ (byBS x p = true ∨ (p.src = x.src ∧ p.dst = x.dst))) → stepS x p = (zAssoc, []) := by
    intro h
    unfold stepS
    rw [if_neg]
    simp [mineS]
    rcases h with h | h | h
    · simp [h]
    · simp [h]
    · intro _ _
      simp at h
      exact ⟨by simp [h.1], h.2⟩
  simp only [assoc_v, packet_v] at f1 f2
  have bb : byBS x p = (decide (p.src = x.dst) && decide (p.dst = x.src)) := by simp [byBS]
  rcases hxo : x.ok with _ | _
  · rw [bad (Or.inl hxo)]
    rw [hxo] at f1
    cases e1 : decide (p.src = x.dst) <;> cases e2 : decide (p.dst = x.src) <;> simp [ac_spec_AssocStep, assoc_v, packet_v, e1, e2]
    all_goals
      refine goCall_eq f1 (by simp) ?_
      simp
      exact Ends.mk [] [] (by simp [zAssoc, zSide, isl])
  · rcases hpo : p.ok with _ | _
    · rw [bad (Or.inr (Or.inl hpo))]
      rw [hxo] at f1
      rw [hpo] at f2
      cases e1 : decide (p.src = x.dst) <;> cases e2 : decide (p.dst = x.src) <;> simp [ac_spec_AssocStep, assoc_v, packet_v, e1, e2]
      all_goals
        refine goCall_eq f1 (by simp) ?_
        simp
        refine goCall_eq f2 (by simp) ?_
        simp
        exact Ends.mk [] [] (by simp [zAssoc, zSide, isl])
    · have f3 := l31Step_ok x (byBS x p) p hxo hpo
      rw [hxo] at f1
      rw [hpo] at f2
      have hxb := hx
      have c1 := l31Copy_ok x (by have := hx.1.2; omega) (by have := hx.2.2; omega)
      have hyo := stepAll_ok (byBS x p) p.chunks [] hxo
      have c2 := l31Copy_ok (stepAll (byBS x p) p.chunks x []).1 (by have := (Assoc.ok_bd hyo).1.2; omega) (by have := (Assoc.ok_bd hyo).2.2; omega)
      have key2 := key _ rfl hxo hpo
      have bad2 := fun h => bad (Or.inr (Or.inr h))
      rw [rulesS_marks] at key2
      have hml := marks_len (brokS x (byBS x p) p (stepAll (byBS x p) p.chunks x []).2)
      generalize stepAll (byBS x p) p.chunks x [] = y at *
      generalize brokS x (byBS x p) p y.2 = f at *
      rw [bb] at f3 key2 bad2
      clear key bad
      simp only [assoc_v, packet_v, Assoc.own, Side.own] at f3 c1 c2
      have bad3 : ((decide (p.src = x.dst) && decide (p.dst = x.src)) || (decide (p.src = x.src) && decide (p.dst = x.dst))) = false → stepS x p = (zAssoc, []) := by
        intro h
        refine bad2 fun q => ?_
        rcases q with q | ⟨q1, q2⟩
        · rw [q] at h; simp at h
        · simp [q1, q2] at h
      have key3 : ((decide (p.src = x.dst) && decide (p.dst = x.src)) || (decide (p.src = x.src) && decide (p.dst = x.dst))) = true → stepS x p = if (marks f 12).map (fun k : Nat => (k : Int)) = [] then (y.1, []) else (x, (marks f 12).map (fun k : Nat => (k : Int))) := by
        intro h
        refine key2 ?_
        simp only [Bool.or_eq_true] at h
        rcases h with h | h
        · left; exact h
        · right; simpa using h
      clear bad2 key2 bb
      generalize stepS x p = R at *
      have hml12 := hml 12
      cases e1 : decide (p.src = x.dst) <;> cases e2 : decide (p.dst = x.src) <;> cases e3 : decide (p.src = x.src) <;> cases e4 : decide (p.dst = x.dst) <;> simp [ac_spec_AssocStep, assoc_v, packet_v, e1, e2, e3, e4]
      all_goals
        refine goCall_eq f1 (by simp) ?_
        simp
        refine goCall_eq f2 (by simp) ?_
        simp [e1, e2, e3, e4]
        first
          | (rw [e1, e2, e3, e4] at bad3
             rw [bad3 rfl]
             refine Ends.mk [] [] ?_
             simp [zAssoc, zSide, isl]
             done)
          | (rw [e1, e2, e3, e4] at key3
             rw [key3 rfl]
             rw [e1, e2] at f3
             simp only [Bool.and_true, Bool.and_false, Bool.and_self] at f3
             refine goCall_eq f3 (by simp) ?_
             simp
             refine go_loop (fun k => { env := [(2, .ptr 2 0), (4, .ptr 4 0), (7, .ptr 7 0), (8, .sl none 1 (boolsV f)), (9, .sl (some 0) 1 ((marks f k).map nV)), (10, .int .i64 (k : Nat))], loc := [], box := [(2, x.cells), (4, List.replicate 14 .undef), (7, y.1.cells)], stat := [(0, some (.own (marks f k).length 1))] }) (fun k => 1 ≤ k ∧ k ≤ 12) (fun k => 12 - k) 1 (by omega) (Weak.of [(0, some 928, 0, 1)] [(2, 2), (4, 4), (7, 7)] (by simp [csl, Assoc.cells, Side.cells, psl, marks, List.range, List.range.loop, List.replicate])) ?_
             rintro k ⟨hk1, hk2⟩
             simp [csl, Assoc.cells, Side.cells, psl, boolsV_len]
             refine goTest_dec (fun hlt => ?_) (fun hge => ?_)
             · have hms := marks_succ f k
               have hmk := hml k
               simp [hlt, getD_bool hlt, boolsV_len]
               cases hfk : f k
               · simp [hfk] at hms
                 simp
                 refine ⟨by omega, Again.mk (k + 1) (by omega) (by omega) (Weak.of [(0, some 0, (marks f k).length, 1)] [(2, 2), (4, 4), (7, 7)] ?_)⟩
                 simp [hms]
               · simp [hfk, hk1] at hms
                 simp
                 refine ⟨by unfold roomOk; omega, by omega, Again.mk (k + 1) (by omega) (by omega) (Weak.of [(0, some 0, (marks f k).length + 1, 1)] [(2, 2), (4, 4), (7, 7)] ?_)⟩
                 simp [hms, nV]
             · obtain rfl : k = 12 := by omega
               simp
               refine goTest_dec (fun hp => ?_) (fun hz => ?_)
               · have hne : ¬ (marks f 12) = [] := by intro e; rw [e] at hp; simp at hp
                 simp [hne]
                 refine goCall_eq c1 (by simp) ?_
                 simp
                 refine Ends.mk [] [] ?_
                 simp [isl, nV, iV]
               · have hne : (marks f 12) = [] := by simpa using hz
                 simp [hne]
                 refine goCall_eq c2 (by simp) ?_
                 simp
                 refine Ends.mk [] [] ?_
                 simp [isl, hne])
end
section
set_option maxRecDepth 200000
set_option maxHeartbeats 8000000
attribute [-simp] List.getD_eq_getElem?_getD
section
variable {st : St} {p : Nat} {src : List UInt8} {a : Int} {d : AD} {rs : List AOp} {k : List It} {Q : AE → St → Prop}
end
section
variable {st : St} {p : Nat} {src : List UInt8} {a : Int} {d : AD} {rs : List AOp} {k : List It} {Q : AE → St → Prop}
end
end
section
set_option maxRecDepth 200000
set_option maxHeartbeats 8000000
attribute [-simp] List.getD_eq_getElem?_getD
inductive MnR (n : Nat) : V → List (List V) → Prop
  | mk (t : List UInt8) (h : t.length = n) : MnR n (.str t) []
theorem l6Many_ok' (s : List UInt8) (n : Nat) (hn : n * s.length ≤ 100000) (hn2 : n ≤ 100000) : ∃ R bo, MnR (n * s.length) R bo ∧ Fn Tryz.prog fn_spec_l6Many [.str s, .int .i64 n] [] R bo := by
  refine Fx.of_go ln_spec_l6Many rfl ?_
  simp [ac_spec_l6Many]
  refine go_loop (fun x : Nat × List UInt8 × List UInt8 => { env := [(0, .str x.2.1), (1, .int .i64 (x.1 : Nat)), (5, .str x.2.2)], loc := [], box := [], stat := [] }) (fun x => x.2.2.length + x.1 * x.2.1.length = n * s.length ∧ x.1 ≤ 100000) (fun x => x.1) (n, s, []) ⟨by simp, hn2⟩ (Weak.of [] [] (by simp)) ?_
  rintro ⟨m, t, o⟩ ⟨hm, hm2⟩
  simp at hm hm2
  simp
  refine goTest_dec (fun q => ?_) (fun q => ?_)
  · have e1 : (m : Int).tmod 2 = ((m % 2 : Nat) : Int) := by rw [tmod_pos (by omega)]; omega
    have e2 : (m : Int).tdiv 2 = ((m / 2 : Nat) : Int) := by rw [tdiv_pos (by omega)]; omega
    have hsp : m = 2 * (m / 2) + m % 2 := by omega
    have hmul : m * t.length = (m / 2) * (t.length + t.length) + (m % 2) * t.length := by
      conv => lhs; rw [hsp]
      rw [Nat.add_mul, Nat.mul_comm 2, Nat.mul_assoc, Nat.two_mul]
    have hlt : t.length ≤ m * t.length := Nat.le_mul_of_pos_left _ q
    simp [e1]
    refine goTest_dec (fun q1 => ?_) (fun q1 => ?_)
    · have q2 : m % 2 = 1 := by omega
      rw [q2] at hmul
      simp [e2]
      repeat' (first
        | (refine And.intro (by omega) ?_)
        | (refine Again.mk (m / 2, t ++ t, o ++ t) ?_ (by simp; omega) (Weak.of [] [] (by simp))))
      all_goals (refine ⟨?_, by simp; omega⟩; simp; omega)
    · have q2 : m % 2 = 0 := by omega
      rw [q2] at hmul
      simp [e2]
      repeat' (first
        | (refine And.intro (by omega) ?_)
        | (refine Again.mk (m / 2, t ++ t, o) ?_ (by simp; omega) (Weak.of [] [] (by simp))))
      all_goals (refine ⟨?_, by simp; omega⟩; simp; omega)
  · obtain rfl : m = 0 := by omega
    simp
    exact ⟨_, _, .mk o (by omega), Ends.mk [] [] (by simp)⟩
theorem l6Many_ok (s : List UInt8) (n : Nat) (hn : n * s.length ≤ 100000) (hn2 : n ≤ 100000) : ∃ t : List UInt8, t.length = n * s.length ∧ Fn Tryz.prog fn_spec_l6Many [.str s, .int .i64 n] [] (.str t) [] := by
  obtain ⟨_, _, ⟨t, ht⟩, f⟩ := l6Many_ok' s n hn hn2
  exact ⟨t, ht, f⟩
theorem goMany {st : St} {d : AD} {rs : List AOp} {k : List It} {Q : AE → St → Prop} {s : List UInt8} (n : Nat) (hn : n * s.length ≤ 100000) (hn2 : n ≤ 100000)
    (h : ∀ t : List UInt8, t.length = n * s.length → go Tryz.prog (.ops rs :: k) Q .normal (Delta.apply { val := .str t } st d)) : goCall Tryz.prog fn_spec_l6Many [.str s, .int .i64 n] d rs k Q st := by
  obtain ⟨t, ht, f⟩ := l6Many_ok s n hn hn2
  refine goCall_eq f (by simp) ?_
  have := h t ht
  simpa using this
inductive ChR (src : List UInt8) (a k : Int) : V → List (List V) → Prop
  | mk (n m : Int) (t : List UInt8) (b : Int) (h : t.length ≤ 1000) (hb : a ≤ b ∧ b ≤ a + k) : ChR src a k (.agg [.int .i64 n, .int .i64 m, .str t]) [[bsl src, .int .i64 b]]
section
variable {st : St} {p : Nat} {src : List UInt8} {a : Int} {d : AD} {rs : List AOp} {k : List It} {Q : AE → St → Prop}
end
inductive PtR (src : List UInt8) (a k : Int) : V → List (List V) → Prop
  | mk (t s n : Int) (f l o : Bool) (x : List UInt8) (b : Int) (h : x.length ≤ 1000) (hb : a ≤ b ∧ b ≤ a + k) : PtR src a k (.agg [.int .i64 t, .int .i64 s, .int .i64 n, .bool f, .bool l, .bool o, .str x]) [[bsl src, .int .i64 b]]
section
variable {st : St} {p : Nat} {src : List UInt8} {a : Int} {d : AD} {rs : List AOp} {k : List It} {Q : AE → St → Prop}
end
inductive HiR (src : List UInt8) (a k : Int) : V → List (List V) → Prop
  | mk (t w s n b : Int) (hb : a ≤ b ∧ b ≤ a + k) : HiR src a k (.agg [.int .i64 t, .int .i64 w, .int .i64 s, .int .i64 n]) [[bsl src, .int .i64 b]]
end
end Go.Proofs.YtjkbbdmkgealfaaGreatDoor
