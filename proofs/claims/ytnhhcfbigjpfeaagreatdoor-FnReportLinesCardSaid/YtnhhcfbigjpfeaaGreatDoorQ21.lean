/-
  Sides of an association; copies.
  One chunk, by the reference.
  One chunk, by the reference: ends and cookies.
  One chunk, by the reference: parts.
  One chunk, by the reference: receipts.
  A chunk keeps an association valid.
  One chunk, by the reference.
-/
import Derived.Test.YtnhhcfbigjpfeaaGreatDoorQ20
namespace Go.Proofs.YtnhhcfbigjpfeaaGreatDoor
set_option linter.all false

section
set_option maxRecDepth 200000
attribute [-simp] List.getD_eq_getElem?_getD

theorem l31Side_ok (x : Assoc) (byB : Bool) : Fn Tryz.prog fn_spec_l31Side [x.v, .bool byB] [] (.tup [(x.side byB).v, (x.other byB).v]) [] := by
  refine Fn.of_go ln_spec_l31Side rfl ?_
  cases byB
  · simp [ac_spec_l31Side, Assoc.v, Assoc.cells, Side.cells, psl]
    exact Ends.mk [] [] (by simp [Assoc.side, Assoc.other, Side.v, Side.cells, psl])
  · simp [ac_spec_l31Side, Assoc.v, Assoc.cells, Side.cells, psl]
    exact Ends.mk [] [] (by simp [Assoc.side, Assoc.other, Side.v, Side.cells, psl])

theorem l31With_ok (x : Assoc) (byB : Bool) (s : Side) : Fn Tryz.prog fn_spec_l31With [x.v, .bool byB, s.v] [] (x.with byB s).v [] := by
  refine Fn.of_go ln_spec_l31With rfl ?_
  cases byB
  · simp [ac_spec_l31With, Assoc.v, Assoc.cells, Side.v, Side.cells, psl]
    exact Ends.mk [] [] (by simp [Assoc.with, Side.v, Side.cells, psl])
  · simp [ac_spec_l31With, Assoc.v, Assoc.cells, Side.v, Side.cells, psl]
    exact Ends.mk [] [] (by simp [Assoc.with, Side.v, Side.cells, psl])

theorem l31Side2_ok (s : Side) (hl : s.sent.length ≤ 1000000) : Fn Tryz.prog fn_spec_l31Side2 [s.v] [] (.agg (s.own 0)) [] := by
  refine Fn.of_go ln_spec_l31Side2 rfl ?_
  simp [ac_spec_l31Side2, Side.v, Side.cells, psl]
  exact ⟨⟨fun a _ => rfl, by unfold roomOk; omega⟩, Ends.mk [(0, some 48, s.sent.length, 7)] [] (by simp [Side.own])⟩

theorem l31Copy_ok (x : Assoc) (ha : x.a.sent.length ≤ 1000000) (hb : x.b.sent.length ≤ 1000000) : Fn Tryz.prog fn_spec_l31Copy [x.v] [] (.agg (x.own 0 1)) [] := by
  refine Fn.of_go ln_spec_l31Copy rfl ?_
  have f1 := l31Side2_ok x.a ha
  have f2 := l31Side2_ok x.b hb
  simp only [Side.v, Side.cells, psl, Side.own] at f1 f2
  simp [ac_spec_l31Copy, Assoc.v, Assoc.cells, Side.cells, psl]
  refine goCall_eq f1 (by simp) ?_
  simp
  refine goCall_eq f2 (by simp) ?_
  simp
  exact Ends.mk [(0, some 80, x.a.sent.length, 7), (1, some 144, x.b.sent.length, 7)] [] (by simp [Assoc.own, Side.own])

theorem assoc_v (x : Assoc) : x.v = .agg [.int .i64 x.src, .int .i64 x.dst, .int .i64 x.state, .bool x.byB, .int .i64 x.a.tag, .int .i64 x.a.streams, .int .i64 x.a.first, .sl none 7 (x.a.sent.map Part.v), .int .i64 x.a.acked, .int .i64 x.b.tag, .int .i64 x.b.streams, .int .i64 x.b.first, .sl none 7 (x.b.sent.map Part.v), .int .i64 x.b.acked] := rfl
theorem side_v (s : Side) : s.v = .agg [.int .i64 s.tag, .int .i64 s.streams, .int .i64 s.first, .sl none 7 (s.sent.map Part.v), .int .i64 s.acked] := rfl
theorem chunk_v (c : Chunk) : c.v = .agg [.int .i64 c.kind, .int .i64 c.flags, .str c.body] := rfl
theorem hi_v (h : Hello) : h.v = .agg [.int .i64 h.tag, .int .i64 h.window, .int .i64 h.streams, .int .i64 h.tsn] := rfl
theorem pt_v (d : Part) : d.v = .agg [.int .i64 d.tsn, .int .i64 d.stream, .int .i64 d.ssn, .bool d.first, .bool d.last, .bool d.loose, .str d.text] := rfl
theorem sk_v (x : Sack) : x.v = .agg [.int .i64 x.cum, .sl none 2 (x.gaps.map gV)] := rfl

theorem part_ne (a d : Part) : (!decide (a.tsn = d.tsn) || (!decide (a.stream = d.stream) || (!decide (a.ssn = d.ssn) || (!a.first == d.first || (!a.last == d.last || (!a.loose == d.loose || !decide (a.text = d.text))))))) = !decide (a = d) := by
  rw [Bool.eq_iff_iff]
  cases a; cases d
  simp

/-- An association and a rule, as they are handed back. -/
def resC (r : Assoc × Int) : V := .tup [r.1.v, .int .i64 r.2]

theorem l31SideF (p1 p2 p3 : Int) (w : Bool) (a1 a2 a3 : Int) (ps : List Part) (a4 b1 b2 b3 : Int) (qs : List Part) (b4 : Int) :
    Fn Tryz.prog fn_spec_l31Side [.agg [.int .i64 p1, .int .i64 p2, .int .i64 p3, .bool w, .int .i64 a1, .int .i64 a2, .int .i64 a3, .sl none 7 (ps.map Part.v), .int .i64 a4, .int .i64 b1, .int .i64 b2, .int .i64 b3, .sl none 7 (qs.map Part.v), .int .i64 b4], .bool false] []
      (.tup [.agg [.int .i64 a1, .int .i64 a2, .int .i64 a3, .sl none 7 (ps.map Part.v), .int .i64 a4], .agg [.int .i64 b1, .int .i64 b2, .int .i64 b3, .sl none 7 (qs.map Part.v), .int .i64 b4]]) [] :=
  l31Side_ok ⟨p1, p2, p3, w, ⟨a1, a2, a3, ps, a4⟩, ⟨b1, b2, b3, qs, b4⟩⟩ false
theorem l31SideT (p1 p2 p3 : Int) (w : Bool) (a1 a2 a3 : Int) (ps : List Part) (a4 b1 b2 b3 : Int) (qs : List Part) (b4 : Int) :
    Fn Tryz.prog fn_spec_l31Side [.agg [.int .i64 p1, .int .i64 p2, .int .i64 p3, .bool w, .int .i64 a1, .int .i64 a2, .int .i64 a3, .sl none 7 (ps.map Part.v), .int .i64 a4, .int .i64 b1, .int .i64 b2, .int .i64 b3, .sl none 7 (qs.map Part.v), .int .i64 b4], .bool true] []
      (.tup [.agg [.int .i64 b1, .int .i64 b2, .int .i64 b3, .sl none 7 (qs.map Part.v), .int .i64 b4], .agg [.int .i64 a1, .int .i64 a2, .int .i64 a3, .sl none 7 (ps.map Part.v), .int .i64 a4]]) [] :=
  l31Side_ok ⟨p1, p2, p3, w, ⟨a1, a2, a3, ps, a4⟩, ⟨b1, b2, b3, qs, b4⟩⟩ true
theorem Ends_ite {rs : List ARes} {bo : List (List V)} {st : St} {c : Prop} [Decidable c] {a b : Assoc × Int} (h1 : c → Ends rs (resC a) bo st) (h2 : ¬ c → Ends rs (resC b) bo st) : Ends rs (resC (if c then a else b)) bo st := by
  split
  · exact h1 ‹_›
  · exact h2 ‹_›
theorem imax (a b : Int) : max a b = if a < b then b else a := by
  split <;> omega
end

section
set_option maxRecDepth 200000
set_option maxHeartbeats 8000000
attribute [-simp] List.getD_eq_getElem?_getD

theorem l31Init_ok (x : Assoc) (byB : Bool) (c : Chunk) (hb : c.body.length ≤ 1000000) (hs : 0 ≤ x.state ∧ x.state ≤ 7) : Fn Tryz.prog fn_spec_l31Init [x.v, .bool byB, c.v] [] (resC (stepHello x byB c)) [] := by
  refine Fn.of_go ln_spec_l31Init rfl ?_
  have f1 := spec_InitGet_ok c hb
  simp only [chunk_v] at f1
  cases byB
  · cases hg : getHello c with
    | none =>
      rw [hg] at f1
      simp [optV, zHello_v] at f1
      simp [ac_spec_l31Init, assoc_v, chunk_v]
      refine goCall_eq f1 (by simp) ?_
      simp
      repeat' (first
        | (refine goTest_dec (fun q => ?_) (fun q => ?_) <;> simp [q])
        | (refine goCall_eq (l6In_ok _ _ _) (by simp) ?_; simp [inB_dec, -Bool.decide_and])
        | (refine goCall_eq (l31SideF _ _ _ _ _ _ _ _ _ _ _ _ _ _) (by simp) ?_; simp)
        | (refine Ends.mk [] [] ?_; simp [resC, assoc_v, stepHello, Assoc.side, *] <;> fail)
        | (refine Ends.mk [] [] ?_; simp [resC, assoc_v, stepHello, Assoc.side, *] <;> omega))
    | some h =>
      rw [hg] at f1
      simp [optV, hi_v] at f1
      simp [ac_spec_l31Init, assoc_v, chunk_v]
      refine goCall_eq f1 (by simp) ?_
      simp
      repeat' (first
        | (refine goTest_dec (fun q => ?_) (fun q => ?_) <;> simp [q])
        | (refine goCall_eq (l6In_ok _ _ _) (by simp) ?_; simp [inB_dec, -Bool.decide_and])
        | (refine goCall_eq (l31SideF _ _ _ _ _ _ _ _ _ _ _ _ _ _) (by simp) ?_; simp)
        | (refine And.intro (by omega) ?_)
        | (refine goCall_gen [] [] [2016] [] none (l31With_ok { x with state := x.state + 1 } false ⟨h.tag, h.streams, h.tsn, [], 0⟩) (by simp [assoc_v, side_v, Assoc.with] <;> omega) ?_; simp [assoc_v, side_v, Assoc.with])
        | (refine Ends.mk [] [] ?_; simp [resC, assoc_v, stepHello, Assoc.side, Assoc.with, *] <;> fail)
        | (refine Ends.mk [] [] ?_; simp [resC, assoc_v, stepHello, Assoc.side, Assoc.with, *] <;> omega))
  · cases hg : getHello c with
    | none =>
      rw [hg] at f1
      simp [optV, zHello_v] at f1
      simp [ac_spec_l31Init, assoc_v, chunk_v]
      refine goCall_eq f1 (by simp) ?_
      simp
      repeat' (first
        | (refine goTest_dec (fun q => ?_) (fun q => ?_) <;> simp [q])
        | (refine goCall_eq (l6In_ok _ _ _) (by simp) ?_; simp [inB_dec, -Bool.decide_and])
        | (refine goCall_eq (l31SideT _ _ _ _ _ _ _ _ _ _ _ _ _ _) (by simp) ?_; simp)
        | (refine Ends.mk [] [] ?_; simp [resC, assoc_v, stepHello, Assoc.side, *] <;> fail)
        | (refine Ends.mk [] [] ?_; simp [resC, assoc_v, stepHello, Assoc.side, *] <;> omega))
    | some h =>
      rw [hg] at f1
      simp [optV, hi_v] at f1
      simp [ac_spec_l31Init, assoc_v, chunk_v]
      refine goCall_eq f1 (by simp) ?_
      simp
      repeat' (first
        | (refine goTest_dec (fun q => ?_) (fun q => ?_) <;> simp [q])
        | (refine goCall_eq (l6In_ok _ _ _) (by simp) ?_; simp [inB_dec, -Bool.decide_and])
        | (refine goCall_eq (l31SideT _ _ _ _ _ _ _ _ _ _ _ _ _ _) (by simp) ?_; simp)
        | (refine And.intro (by omega) ?_)
        | (refine goCall_gen [] [] [2016] [] none (l31With_ok { x with state := x.state + 1 } true ⟨h.tag, h.streams, h.tsn, [], 0⟩) (by simp [assoc_v, side_v, Assoc.with] <;> omega) ?_; simp [assoc_v, side_v, Assoc.with])
        | (refine Ends.mk [] [] ?_; simp [resC, assoc_v, stepHello, Assoc.side, Assoc.with, *] <;> fail)
        | (refine Ends.mk [] [] ?_; simp [resC, assoc_v, stepHello, Assoc.side, Assoc.with, *] <;> omega))
end

section
set_option maxRecDepth 200000
set_option maxHeartbeats 8000000
attribute [-simp] List.getD_eq_getElem?_getD


theorem l31Cookie_ok (x : Assoc) (byB : Bool) (kind : Int) (hs : 0 ≤ x.state ∧ x.state ≤ 7) : Fn Tryz.prog fn_spec_l31Cookie [x.v, .bool byB, .int .i64 kind] [] (resC (stepCookie x byB kind)) [] := by
  refine Fn.of_go ln_spec_l31Cookie rfl ?_
  cases byB <;> simp [ac_spec_l31Cookie, assoc_v]
  all_goals
    repeat' (first
      | (refine goTest_dec (fun q => ?_) (fun q => ?_) <;> simp [q])
      | (refine goCall_eq (l6In_ok _ _ _) (by simp) ?_; simp [inB_dec, -Bool.decide_and])
      | (refine Ends.mk [] [] ?_; simp [resC, assoc_v, stepCookie, *] <;> fail)
      | (refine Ends.mk [] [] ?_; simp [resC, assoc_v, stepCookie, *] <;> omega))

theorem l31End_ok (x : Assoc) (byB : Bool) (kind : Int) (hs : 0 ≤ x.state ∧ x.state ≤ 7) : Fn Tryz.prog fn_spec_l31End [x.v, .bool byB, .int .i64 kind] [] (resC (stepEnd x byB kind)) [] := by
  refine Fn.of_go ln_spec_l31End rfl ?_
  have f2 := l31Side_ok x byB
  simp only [assoc_v, side_v] at f2
  cases byB <;> simp [Assoc.side, Assoc.other] at f2
  all_goals
    cases hw : x.byB
    all_goals
      simp [hw] at f2
      simp [ac_spec_l31End, assoc_v, hw]
      refine goCall_eq f2 (by simp) ?_
      simp
      repeat' (first
        | (refine goTest_dec (fun q => ?_) (fun q => ?_) <;> simp [q])
        | (refine goCall_eq (l6In_ok _ _ _) (by simp) ?_; simp [inB_dec, -Bool.decide_and])
        | (refine Ends.mk [] [] ?_; simp [resC, assoc_v, stepEnd, Assoc.side, *] <;> fail)
        | (refine Ends.mk [] [] ?_; simp [resC, assoc_v, stepEnd, Assoc.side, *] <;> omega))
end

section
set_option maxRecDepth 200000
set_option maxHeartbeats 8000000
attribute [-simp] List.getD_eq_getElem?_getD


theorem getPart_ok {c : Chunk} {d : Part} (h : getPart c = some d) : d.ok = true ∧ 0 ≤ d.tsn ∧ d.tsn ≤ 65535 := by
  unfold getPart at h
  split at h
  · split at h
    · rename_i h2
      obtain rfl : c.part = d := by simpa using h
      refine ⟨h2, ?_⟩
      simp [Part.ok, inS] at h2
      omega
    · cases h
  · cases h

theorem l31Data_ok (x : Assoc) (byB : Bool) (c : Chunk) (hb : c.body.length ≤ 1000000) (hs : 0 ≤ x.state ∧ x.state ≤ 7) (hx : x.bd) : Fn Tryz.prog fn_spec_l31Data [x.v, .bool byB, c.v] [] (resC (stepPart x byB c)) [] := by
  refine Fn.of_go ln_spec_l31Data rfl ?_
  have f1 := spec_DataGet_ok c hb
  have f2 := l31Side_ok x byB
  have hsd : (x.side byB).bd := by cases byB <;> simp [Assoc.side, hx.1, hx.2]
  obtain ⟨⟨hf1, hf2⟩, hf3⟩ := hsd
  generalize hsv : x.side byB = s at *
  simp only [assoc_v, side_v, chunk_v] at f1 f2
  cases hg : getPart c with
  | none =>
    rw [hg] at f1
    simp [optV, zPart_v] at f1
    simp [ac_spec_l31Data, assoc_v, chunk_v]
    refine goCall_eq f1 (by simp) ?_
    simp
    refine goCall_eq f2 (by simp) ?_
    simp
    cases byB <;> cases hw : x.byB
    repeat' (first
      | (refine goTest_dec (fun q => ?_) (fun q => ?_) <;> simp [q])
      | (refine Ends.mk [] [] ?_; simp [resC, assoc_v, stepPart, *] <;> fail)
      | (refine Ends.mk [] [] ?_; simp [resC, assoc_v, stepPart, *] <;> omega))
  | some d =>
    rw [hg] at f1
    simp [optV, pt_v] at f1
    obtain ⟨hd, hd1, hd2⟩ := getPart_ok hg
    have f3 := l3Add_ok d.tsn (-s.first) (by omega) (by omega) (by omega)
    have hk : 0 ≤ addS d.tsn (-s.first) ∧ addS d.tsn (-s.first) < 65536 := by unfold addS; omega
    have f4 := l31Follows_ok s.sent d (by omega)
    simp only [psl, pt_v] at f4
    simp [ac_spec_l31Data, assoc_v, chunk_v]
    refine goCall_eq f1 (by simp) ?_
    simp
    refine goCall_eq f2 (by simp) ?_
    simp
    refine ⟨by omega, ?_⟩
    refine goCall_eq f3 (by simp) ?_
    simp
    obtain ⟨k, hkk⟩ : ∃ k : Nat, addS d.tsn (-s.first) = k := ⟨(addS d.tsn (-s.first)).toNat, by omega⟩
    simp [hkk]
    have hst : stepPart x byB c = (
      if ¬ ((x.state = 4 ∨ (x.state = 3 ∧ byB = false)) ∨ (x.state = 5 ∧ byB ≠ x.byB)) then (x, 3) else
      if k < s.sent.length then (x, if nth s.sent k = d then 0 else 7) else
      if ¬ (x.state = 4 ∨ (x.state = 3 ∧ byB = false)) then (x, 3) else
      if d.stream ≥ s.streams then (x, 5) else
      if k > s.sent.length then (x, 6) else
      if followS s.sent d = false then (x, 8) else
      if s.sent.length ≥ 12 then (x, 11) else
      (x.with byB { s with sent := s.sent ++ [d] }, 0)) := by
      simp only [stepPart, hg, hsv, hkk]
      simp
    rw [hst]
    clear hst f1 f2 f3 hg hx
    cases byB <;> cases hw : x.byB
    repeat' (first
      | (exfalso; omega)
      | (refine goTest_dec (fun q => ?_) (fun q => ?_) <;> simp [q, pt_v, part_ne])
      | (refine goTest_bool (fun q => ?_) (fun q => ?_) <;> simp [q])
      | (refine goCall_eq f4 (by simp) ?_; simp)
      | (refine And.intro (by omega) ?_)
      | (refine And.intro (by unfold roomOk; omega) ?_)
      | (refine goCall_gen [] [] [1840] [] none (l31With_ok x false { s with sent := s.sent ++ [d] }) ?_ ?_; (· clear f4; simp [assoc_v, side_v, pt_v, *]; done); simp [assoc_v, side_v, pt_v])
      | (refine goCall_gen [] [] [1840] [] none (l31With_ok x true { s with sent := s.sent ++ [d] }) ?_ ?_; (· clear f4; simp [assoc_v, side_v, pt_v, *]; done); simp [assoc_v, side_v, pt_v])
      | (refine Ends.mk [] [] ?_; clear f4; simp [resC, assoc_v, pt_v, *] <;> fail)
      | (refine Ends.mk [] [] ?_; clear f4; simp [resC, assoc_v, pt_v, Assoc.with, *] <;> fail)
      | (refine Ends.mk [] [] ?_; clear f4; simp [resC, assoc_v, pt_v, *] <;> omega))
end

section
set_option maxRecDepth 200000
set_option maxHeartbeats 8000000
attribute [-simp] List.getD_eq_getElem?_getD


theorem getSack_ok {c : Chunk} {k : Sack} (h : getSack c = some k) : k.ok = true ∧ k = c.sack := by
  unfold getSack at h
  split at h
  · split at h
    · rename_i h2
      obtain rfl : c.sack = k := by simpa using h
      exact ⟨h2, rfl⟩
    · cases h
  · cases h

theorem gapsOk_le : ∀ (l : List (Int × Int)) (n : Int), gapsOk n l = true → ∀ g ∈ l, n + 2 ≤ g.2 ∧ g.2 ≤ 16
  | [], n, h, g, hg => absurd hg (List.not_mem_nil)
  | a :: r, n, h, g, hg => by
    simp only [gapsOk, Bool.and_eq_true, decide_eq_true_eq] at h
    obtain ⟨⟨⟨h1, h2⟩, h3⟩, h4⟩ := h
    rcases List.mem_cons.1 hg with rfl | hg
    · omega
    · have := gapsOk_le r _ h4 g hg
      omega

theorem sack_bd {k : Sack} (h : k.ok = true) : 0 ≤ k.cum ∧ k.cum ≤ 65535 ∧ k.gaps.length ≤ 8 ∧ ∀ g ∈ k.gaps, 2 ≤ g.2 ∧ g.2 ≤ 16 := by
  simp [Sack.ok, inS] at h
  exact ⟨h.1.2.1, by omega, h.2, fun g hg => by have := gapsOk_le _ _ h.1.1 g hg; omega⟩

theorem diffS_bd (a b : Int) : -32767 ≤ diffS a b ∧ diffS a b ≤ 32768 := by
  unfold diffS; split <;> omega

theorem l31Sack_ok (x : Assoc) (byB : Bool) (c : Chunk) (hb : c.body.length ≤ 1000000) (ho : (0 ≤ (x.other byB).first ∧ (x.other byB).first ≤ 65535) ∧ (x.other byB).sent.length ≤ 1000) : Fn Tryz.prog fn_spec_l31Sack [x.v, .bool byB, c.v] [] (resC (stepSack x byB c)) [] := by
  refine Fn.of_go ln_spec_l31Sack rfl ?_
  have f1 := spec_SackGet_ok c hb
  have f2 := l31Side_ok x byB
  obtain ⟨⟨hf1, hf2⟩, hf3⟩ := ho
  generalize hov : x.other byB = o at *
  simp only [assoc_v, side_v, chunk_v] at f1 f2
  cases hg : getSack c with
  | none =>
    rw [hg] at f1
    simp [optV, zSack_v] at f1
    simp [ac_spec_l31Sack, assoc_v, chunk_v]
    refine goCall_eq f1 (by simp) ?_
    simp
    refine goCall_eq f2 (by simp) ?_
    simp
    refine goCall_eq (l6In_ok _ _ _) (by simp) ?_
    simp [inB_dec, -Bool.decide_and]
    have hst : stepSack x byB c = (if ¬ (4 ≤ x.state ∧ x.state ≤ 5) then (x, 3) else (x, 4)) := by simp only [stepSack, hg]
    rw [hst]
    clear hst f1 f2 hg
    repeat' (first
      | (exfalso; omega)
      | (refine goTest_dec (fun q => ?_) (fun q => ?_) <;> simp [q])
      | (refine Ends.mk [] [] ?_; simp [resC, assoc_v, *] <;> fail))
  | some k =>
    rw [hg] at f1
    obtain ⟨hd, -⟩ := getSack_ok hg
    obtain ⟨hd1, hd2, hd3, hd4⟩ := sack_bd hd
    simp [optV, sk_v] at f1
    have f3 := l3Add_ok o.first (-1) (by omega) (by omega) (by omega)
    have hk : 0 ≤ addS o.first (-1) ∧ addS o.first (-1) < 65536 := by unfold addS; omega
    have f4 := l3Diff_ok (addS o.first (-1)) k.cum (by omega) (by omega)
    have hdb := diffS_bd (addS o.first (-1)) k.cum
    simp [ac_spec_l31Sack, assoc_v, chunk_v]
    refine goCall_eq f1 (by simp) ?_
    simp
    refine goCall_eq f2 (by simp) ?_
    simp
    refine goCall_eq (l6In_ok _ _ _) (by simp) ?_
    simp [inB_dec, -Bool.decide_and]
    have hst : stepSack x byB c = (if ¬ (4 ≤ x.state ∧ x.state ≤ 5) then (x, 3) else
      if ¬ (0 ≤ diffS (addS o.first (-1)) k.cum ∧ diffS (addS o.first (-1)) k.cum ≤ o.sent.length) ∨ ((match k.gaps.getLast? with
        | some g => diffS (addS o.first (-1)) k.cum + g.2
        | none => diffS (addS o.first (-1)) k.cum) : Int) > o.sent.length then (x, 9) else
      (x.with (!byB) { o with acked := if o.acked < diffS (addS o.first (-1)) k.cum then diffS (addS o.first (-1)) k.cum else o.acked }, 0)) := by
      simp only [stepSack, hg, hov, imax]
      rfl
    rw [hst]
    generalize diffS (addS o.first (-1)) k.cum = fin at *
    clear hst f1 f2 hg
    by_cases hn : k.gaps = []
    · simp [hn, -Bool.decide_and]
      repeat' (first
        | (exfalso; omega)
        | (refine goTest_dec (fun q => ?_) (fun q => ?_) <;> simp [q])
        | (refine goDCall_eq f3 (by simp) (by simp) ?_; simp)
        | (refine goCall_eq f4 (by simp) ?_; simp)
        | (refine goCall_eq (l6In_ok _ _ _) (by simp) ?_; simp [inB_dec, -Bool.decide_and])
        | (refine And.intro (by omega) ?_)
        | (refine goCall_gen [] [] [] [] none (l31With_ok x (!byB) { o with acked := if o.acked < fin then fin else o.acked }) ?_ ?_; (· clear f3 f4; simp [assoc_v, side_v, *]; done); simp [assoc_v, side_v])
        | (refine Ends_ite (fun q => ?_) (fun q => ?_))
        | (refine Ends.mk [] [] ?_; clear f4 f3; simp [resC, assoc_v] <;> fail)
        | (cases byB <;> refine Ends.mk [] [] ?_ <;> clear f4 f3 <;> simp [resC, assoc_v, Assoc.with] <;> fail))
    · have hl := List.length_pos_iff.2 hn
      have e1 : ((k.gaps.length : Int) - 1).toNat = k.gaps.length - 1 := by omega
      have e2 : k.gaps.length - 1 < k.gaps.length := by omega
      have hg2 := hd4 _ (nth_mem e2)
      have hgg : (nth k.gaps (k.gaps.length - 1)).2 = (nth k.gaps (k.gaps.length - 1)).2 := rfl
      rw [nth_last hn]
      simp only
      simp [hl, e1, e2, gV, -Bool.decide_and]
      generalize hgv : nth k.gaps (k.gaps.length - 1) = g at *
      repeat' (first
        | (exfalso; omega)
        | (refine goTest_dec (fun q => ?_) (fun q => ?_) <;> simp [q, hl, e1, e2, gV, hgv])
        | (refine goDCall_eq f3 (by simp) (by simp) ?_; simp [hl, e1, e2, gV, hgv])
        | (refine goCall_eq f4 (by simp) ?_; simp [hl, e1, e2, gV, hgv])
        | (refine goCall_eq (l6In_ok _ _ _) (by simp) ?_; simp [inB_dec, -Bool.decide_and])
        | (refine And.intro (by omega) ?_)
        | (refine goCall_gen [] [] [] [] none (l31With_ok x (!byB) { o with acked := if o.acked < fin then fin else o.acked }) ?_ ?_; (· clear f3 f4; simp [assoc_v, side_v, *]; done); simp [assoc_v, side_v])
        | (refine Ends_ite (fun q => ?_) (fun q => ?_))
        | (refine Ends.mk [] [] ?_; clear f4 f3; simp [resC, assoc_v] <;> fail)
        | (cases byB <;> refine Ends.mk [] [] ?_ <;> clear f4 f3 <;> simp [resC, assoc_v, Assoc.with] <;> fail))
end

section
set_option maxRecDepth 200000
set_option maxHeartbeats 1000000
attribute [-simp] List.getD_eq_getElem?_getD


theorem side_iff {s : Side} (h : s.tag ≠ 0) : s.ok = true ↔ (allTo (partAt s) s.sent.length = true ∧ (1 ≤ s.tag ∧ s.tag ≤ 4294967295) ∧ (1 ≤ s.streams ∧ s.streams ≤ 4) ∧ (0 ≤ s.first ∧ s.first ≤ 65535) ∧ s.sent.length ≤ 12 ∧ 0 ≤ s.acked ∧ s.acked ≤ s.sent.length) := by
  rw [sideTag s h]
  simp only [inB, inS, Bool.and_eq_true, decide_eq_true_eq]
  constructor
  · rintro ⟨⟨⟨⟨⟨h1, h2⟩, h3⟩, h4⟩, h5⟩, h6⟩
    exact ⟨h1, by omega, by omega, by omega, h5, by omega⟩
  · rintro ⟨h1, h2, h3, h4, h5, h6⟩
    exact ⟨⟨⟨⟨⟨h1, by omega⟩, by omega⟩, by omega⟩, h5⟩, by omega⟩
theorem Side.ok_tag {s : Side} (h : s.ok = true) : 0 ≤ s.tag := by
  by_cases q : s.tag = 0
  · omega
  · have := (side_iff q).1 h; omega

theorem side_zero {s : Side} (h : s.tag = 0) : s.ok = true ↔ (s.streams = 0 ∧ s.first = 0 ∧ s.sent = [] ∧ s.acked = 0) := by
  unfold Side.ok; rw [if_pos h]; simp [and_assoc]

theorem Side.ok_first {s : Side} (h : s.ok = true) : (0 ≤ s.first ∧ s.first ≤ 65535) ∧ s.sent.length ≤ 12 ∧ 0 ≤ s.acked ∧ s.acked ≤ s.sent.length := by
  by_cases q : s.tag = 0
  · obtain ⟨-, h2, h3, h4⟩ := (side_zero q).1 h
    rw [h2, h3, h4]; simp
  · obtain ⟨-, -, -, h4, h5, h6⟩ := (side_iff q).1 h
    exact ⟨h4, h5, h6⟩

theorem Side.ok_bd {s : Side} (h : s.ok = true) : s.bd := by
  have := s.ok_first h
  exact ⟨by omega, by omega⟩
theorem Assoc.ok_bd {x : Assoc} (h : x.ok = true) : x.bd := by
  obtain ⟨-, -, -, -, h5, h6, -⟩ := (assoc_iff x).1 h
  exact ⟨Side.ok_bd h5, Side.ok_bd h6⟩
theorem Assoc.ok_side {x : Assoc} (h : x.ok = true) (byB : Bool) : (x.side byB).ok = true ∧ (x.other byB).ok = true := by
  obtain ⟨-, -, -, -, h5, h6, -⟩ := (assoc_iff x).1 h
  cases byB <;> exact ⟨‹_›, ‹_›⟩
theorem Assoc.ok_state {x : Assoc} (h : x.ok = true) : 0 ≤ x.state ∧ x.state ≤ 7 := by
  obtain ⟨-, -, -, h4, -⟩ := (assoc_iff x).1 h
  exact h4

theorem getHello_ok {c : Chunk} {d : Hello} (h : getHello c = some d) : d.ok = true := by
  unfold getHello at h
  split at h
  · split at h
    · rename_i h2
      obtain rfl : c.hello = d := by simpa using h
      exact h2
    · cases h
  · cases h

theorem newSide_ok {h : Hello} (hh : h.ok = true) : (⟨h.tag, h.streams, h.tsn, [], 0⟩ : Side).ok = true ∧ 0 < h.tag := by
  simp [Hello.ok, inB, inS] at hh
  have : h.tag ≠ 0 := by omega
  refine ⟨(side_iff (by exact this)).2 ⟨rfl, by simp only; omega, by simp only; omega, by simp only; omega, by simp, by simp, by simp⟩, by omega⟩

theorem stepHello_ok {x : Assoc} (h : x.ok = true) (byB : Bool) (c : Chunk) : (stepHello x byB c).1.ok = true := by
  unfold stepHello
  simp only
  split
  · exact h
  · split
    · exact h
    · rename_i k d hd
      split
      · exact h
      · split
        · exact h
        · rename_i q0 q1 q2
          obtain ⟨k1, k2⟩ := newSide_ok (getHello_ok hd)
          have q := (assoc_iff x).1 h
          obtain ⟨h1, h2, h3, h4, h5, h6, h7, h8, h9, h10⟩ := q
          have hb0 : x.byB = true → False := fun e => by have := h10 e; omega
          have hA := Side.ok_tag h5
          have hB := Side.ok_tag h6
          have hl : x.a.sent.length + x.b.sent.length ≤ 0 := by omega
          have hc : (x.state = 0 ∧ byB = false ∧ c.kind = 1) ∨ (x.state = 1 ∧ byB = true ∧ c.kind = 2) := by
            rcases Classical.em ((x.state = 0 ∧ byB = false ∧ c.kind = 1) ∨ (x.state = 1 ∧ byB = true ∧ c.kind = 2)) with e | e
            · exact e
            · exact absurd ⟨e, q2⟩ q0
          rcases hc with ⟨e1, e2, e3⟩ | ⟨e1, e2, e3⟩
          · subst e2
            have htb : ¬ 0 < x.b.tag := by omega
            show ({ x with state := x.state + 1, a := ⟨d.tag, d.streams, d.tsn, [], 0⟩ } : Assoc).ok = true
            rw [assoc_iff]
            refine ⟨h1, h2, h3, by (first | omega | (simp only; omega)), k1, h6, by (first | omega | (simp only; omega)), by (first | omega | (simp only; omega)), Or.inr (by show 0 + x.b.sent.length ≤ 0; omega), fun e => (hb0 e).elim⟩
          · subst e2
            show ({ x with state := x.state + 1, b := ⟨d.tag, d.streams, d.tsn, [], 0⟩ } : Assoc).ok = true
            rw [assoc_iff]
            refine ⟨h1, h2, h3, by (first | omega | (simp only; omega)), h5, k1, by (first | omega | (simp only; omega)), by (first | omega | (simp only; omega)), Or.inr (by show x.a.sent.length + 0 ≤ 0; omega), fun e => (hb0 e).elim⟩

theorem nth_append_lt {α : Type} [Inhabited α] {l r : List α} {i : Nat} (h : i < l.length) : nth (l ++ r) i = nth l i := by
  rw [nth_eq (by simp; omega), nth_eq h, List.getElem_append_left h]
theorem nth_append_len {α : Type} [Inhabited α] {l : List α} {x : α} : nth (l ++ [x]) l.length = x := by
  rw [nth_eq (by simp), List.getElem_append_right (by omega)]; simp

theorem addS_back {t f : Int} {n : Nat} (ht : 0 ≤ t ∧ t ≤ 65535) (h : addS t (-f) = n) : t = addS f n := by
  unfold addS at *; omega

theorem side_snoc {s : Side} {d : Part} (h : s.ok = true) (ht : s.tag ≠ 0) (hd : d.ok = true) (h1 : addS d.tsn (-s.first) = s.sent.length) (h2 : d.stream < s.streams) (h3 : followS s.sent d = true) (h4 : s.sent.length < 12) :
    ({ s with sent := s.sent ++ [d] } : Side).ok = true := by
  obtain ⟨q1, q2, q3, q4, q5, q6, q7⟩ := (side_iff ht).1 h
  refine (side_iff (by exact ht)).2 ⟨?_, q2, q3, q4, by simp; omega, q6, by simp; omega⟩
  rw [allTo_iff] at q1 ⊢
  intro i hi
  simp at hi
  by_cases e : i < s.sent.length
  · have := q1 i e
    simp only [partAt] at this ⊢
    rw [nth_append_lt e, List.take_append_of_le_length (by omega)]
    exact this
  · obtain rfl : i = s.sent.length := by omega
    simp only [partAt]
    rw [nth_append_len, List.take_left' rfl]
    have hts : 0 ≤ d.tsn ∧ d.tsn ≤ 65535 := by simp [Part.ok, inS] at hd; omega
    have := addS_back hts h1
    simp [hd, h2, h3, ← this]

theorem with_ok {x : Assoc} (h : x.ok = true) (byB : Bool) {s : Side} (hs : s.ok = true) (ht : s.tag = (x.side byB).tag) (h3 : 3 ≤ x.state) : (x.with byB s).ok = true := by
  obtain ⟨h1, h2, h3, h4, h5, h6, h7, h8, h9, h10⟩ := (assoc_iff x).1 h
  rw [assoc_iff]
  cases byB <;> simp [Assoc.with, Assoc.side] at ht ⊢
  · exact ⟨h1, h2, h3, h4, hs, h6, by omega, by omega, by omega, h10⟩
  · exact ⟨h1, h2, h3, h4, h5, hs, by omega, by omega, by omega, h10⟩

theorem side_tag {x : Assoc} (h : x.ok = true) (byB : Bool) (h3 : 3 ≤ x.state) (h6 : x.state ≤ 6) : (x.side byB).tag ≠ 0 ∧ (x.other byB).tag ≠ 0 := by
  obtain ⟨-, -, -, h4, -, -, h7, h8, -⟩ := (assoc_iff x).1 h
  cases byB <;> simp [Assoc.side, Assoc.other] <;> omega

theorem stepPart_ok {x : Assoc} (h : x.ok = true) (byB : Bool) (c : Chunk) : (stepPart x byB c).1.ok = true := by
  unfold stepPart
  simp only
  split
  · exact h
  · split
    · exact h
    · rename_i q0 _ d hd
      obtain ⟨k1, k2⟩ := getPart_ok hd
      have hk : 0 ≤ addS d.tsn (-(x.side byB).first) := by unfold addS; omega
      repeat' split
      all_goals (try exact h)
      rename_i r1 r2 r3 r4 r5 r6
      have hst : 3 ≤ x.state ∧ x.state ≤ 6 := by
        rcases Classical.em (x.state = 4) with e | e
        · omega
        · rcases Classical.em (x.state = 3) with e2 | e2
          · omega
          · exact absurd (by simp [e, e2]) r2
      have ht := (side_tag h byB hst.1 hst.2).1
      refine with_ok h byB (side_snoc (Assoc.ok_side h byB).1 ht k1 (by omega) (by omega) ?_ (by omega)) rfl hst.1
      cases e : followS (x.side byB).sent d
      · exact absurd e r5
      · rfl

def mostG (fin : Int) (l : List (Int × Int)) : Int := match l.getLast? with
  | some g => fin + g.2
  | none => fin
theorem stepSack_eq (x : Assoc) (byB : Bool) (c : Chunk) : stepSack x byB c = ((if ¬ (4 ≤ x.state ∧ x.state ≤ 5) then (x, 3) else
  match getSack c with
  | none => (x, 4)
  | some k => if ¬ (0 ≤ diffS (addS (x.other byB).first (-1)) k.cum ∧ diffS (addS (x.other byB).first (-1)) k.cum ≤ (x.other byB).sent.length) ∨ mostG (diffS (addS (x.other byB).first (-1)) k.cum) k.gaps > (x.other byB).sent.length then (x, 9) else
    (x.with (!byB) { x.other byB with acked := max (x.other byB).acked (diffS (addS (x.other byB).first (-1)) k.cum) }, 0)) : Assoc × Int) := rfl

theorem stepSack_ok {x : Assoc} (h : x.ok = true) (byB : Bool) (c : Chunk) : (stepSack x byB c).1.ok = true := by
  rw [stepSack_eq]
  by_cases q0 : 4 ≤ x.state ∧ x.state ≤ 5
  · rw [if_neg (by omega)]
    cases getSack c with
    | none => exact h
    | some k =>
      simp only
      split
      · exact h
      · have hs := (Assoc.ok_side h byB).2
        have ht := (side_tag h byB (by omega) (by omega)).2
        obtain ⟨r1, r2, r3, r4, r5, r6, r7⟩ := (side_iff ht).1 hs
        have hoo : x.side (!byB) = x.other byB := by cases byB <;> rfl
        refine with_ok h (!byB) ((side_iff (by exact ht)).2 ⟨r1, r2, r3, r4, r5, ?_, ?_⟩) (by rw [hoo]) (by omega)
        · simp only; omega
        · simp only; omega
  · rw [if_pos q0]; exact h

theorem state_ok {x : Assoc} (h : x.ok = true) {s : Int} {w : Bool} (h1 : 1 ≤ x.state) (h2 : s ≤ 7) (h3 : x.state ≤ s) (h4 : s = 7 ∨ 2 ≤ x.state) (hw : w = true → 5 ≤ s) : ({ x with state := s, byB := w } : Assoc).ok = true := by
  obtain ⟨q1, q2, q3, q4, q5, q6, q7, q8, q9, q10⟩ := (assoc_iff x).1 h
  rw [assoc_iff]
  exact ⟨q1, q2, q3, by simp only; omega, q5, q6, by simp only; omega, by simp only; omega, by simp only; omega, hw⟩

theorem stepEnd_ok {x : Assoc} (h : x.ok = true) (byB : Bool) (k : Int) : (stepEnd x byB k).1.ok = true := by
  have h10 := ((assoc_iff x).1 h).2.2.2.2.2.2.2.2.2
  unfold stepEnd
  simp only
  repeat' split
  all_goals first
    | exact h
    | exact state_ok h (by omega) (by omega) (by omega) (by omega) (by intro e; first | omega | (have := h10 e; omega))

theorem stepCookie_ok {x : Assoc} (h : x.ok = true) (byB : Bool) (k : Int) : (stepCookie x byB k).1.ok = true := by
  have h10 := ((assoc_iff x).1 h).2.2.2.2.2.2.2.2.2
  unfold stepCookie
  repeat' split
  all_goals first
    | exact h
    | exact state_ok h (by omega) (by omega) (by omega) (by omega) (by intro e; have := h10 e; omega)

theorem stepC_ok {x : Assoc} (h : x.ok = true) (byB : Bool) (c : Chunk) : (stepC x byB c).1.ok = true := by
  unfold stepC
  repeat' split
  · exact stepHello_ok h byB c
  · exact stepPart_ok h byB c
  · exact stepSack_ok h byB c
  · exact stepEnd_ok h byB _
  · exact stepCookie_ok h byB _

theorem stepC_rule (x : Assoc) (byB : Bool) (c : Chunk) : 0 ≤ (stepC x byB c).2 ∧ (stepC x byB c).2 ≤ 11 := by
  unfold stepC
  split
  · unfold stepHello; simp only; repeat' split
    all_goals (refine ⟨?_, ?_⟩ <;> simp)
  · split
    · unfold stepPart; simp only; repeat' split
      all_goals (refine ⟨?_, ?_⟩ <;> simp)
    · split
      · rw [stepSack_eq]
        split
        · refine ⟨?_, ?_⟩ <;> simp
        · cases getSack c with
          | none => simp
          | some k => simp only; split <;> simp
      · split
        · unfold stepEnd; simp only; repeat' split
          all_goals (refine ⟨?_, ?_⟩ <;> simp)
        · unfold stepCookie; repeat' split
          all_goals (refine ⟨?_, ?_⟩ <;> simp)

theorem stepAll_ok (byB : Bool) : ∀ (l : List Chunk) {x : Assoc} (r : List Int), x.ok = true → (stepAll byB l x r).1.ok = true
  | [], x, r, h => h
  | c :: l, x, r, h => stepAll_ok byB l _ (stepC_ok h byB c)

theorem stepAll_snoc (byB : Bool) (c : Chunk) : ∀ (l : List Chunk) (x : Assoc) (r : List Int), stepAll byB (l ++ [c]) x r = ((stepC (stepAll byB l x r).1 byB c).1, (stepAll byB l x r).2 ++ [(stepC (stepAll byB l x r).1 byB c).2])
  | [], x, r => rfl
  | d :: l, x, r => stepAll_snoc byB c l _ _
end

section
set_option maxRecDepth 200000
set_option maxHeartbeats 8000000
attribute [-simp] List.getD_eq_getElem?_getD


theorem res_v (r : Assoc × Int) : resC r = .tup [.agg [.int .i64 r.1.src, .int .i64 r.1.dst, .int .i64 r.1.state, .bool r.1.byB, .int .i64 r.1.a.tag, .int .i64 r.1.a.streams, .int .i64 r.1.a.first, .sl none 7 (r.1.a.sent.map Part.v), .int .i64 r.1.a.acked, .int .i64 r.1.b.tag, .int .i64 r.1.b.streams, .int .i64 r.1.b.first, .sl none 7 (r.1.b.sent.map Part.v), .int .i64 r.1.b.acked], .int .i64 r.2] := rfl

theorem l31Chunk_ok (x : Assoc) (byB : Bool) (c : Chunk) (hb : c.body.length ≤ 1000000) (hx : x.ok = true) : Fn Tryz.prog fn_spec_l31Chunk [x.v, .bool byB, c.v] [] (resC (stepC x byB c)) [] := by
  refine Fn.of_go ln_spec_l31Chunk rfl ?_
  have hs := Assoc.ok_state hx
  have f1 := l31Init_ok x byB c hb hs
  have f2 := l31Data_ok x byB c hb hs (Assoc.ok_bd hx)
  have f3 := l31Sack_ok x byB c hb ⟨(Side.ok_first (Assoc.ok_side hx byB).2).1, by have := (Side.ok_first (Assoc.ok_side hx byB).2).2; omega⟩
  have f4 := l31End_ok x byB c.kind hs
  have f5 := l31Cookie_ok x byB c.kind hs
  simp only [assoc_v, chunk_v, res_v] at f1 f2 f3 f4 f5
  simp only [stepC, assoc_v, chunk_v]
  repeat' split
  all_goals
    simp [ac_spec_l31Chunk]
    repeat' (first
      | (exfalso; omega)
      | (refine goTest_dec (fun q => ?_) (fun q => ?_) <;> simp [q])
      | (refine goCall_eq f1 (by simp) ?_; simp)
      | (refine goCall_eq f2 (by simp) ?_; simp)
      | (refine goCall_eq f3 (by simp) ?_; simp)
      | (refine goCall_eq f4 (by simp) ?_; simp)
      | (refine goCall_eq f5 (by simp) ?_; simp)
      | (rw [‹c.kind = _›] at f1 f2 f3 f4 f5; refine goCall_eq f1 (by simp) ?_; simp)
      | (rw [‹c.kind = _›] at f1 f2 f3 f4 f5; refine goCall_eq f2 (by simp) ?_; simp)
      | (rw [‹c.kind = _›] at f1 f2 f3 f4 f5; refine goCall_eq f3 (by simp) ?_; simp)
      | (rw [‹c.kind = _›] at f1 f2 f3 f4 f5; refine goCall_eq f4 (by simp) ?_; simp)
      | (refine Ends.mk [] [] ?_; simp [res_v] <;> fail))

theorem l31Tag_ok (x : Assoc) (byB : Bool) (p : Packet) (hp : p.chunks.length ≤ 1000000) : Fn Tryz.prog fn_spec_l31Tag [x.v, .bool byB, p.v] [] (.int .i64 (tagS x byB p)) [] := by
  refine Fn.of_go ln_spec_l31Tag rfl ?_
  have f2 := l31Side_ok x byB
  simp only [assoc_v, side_v] at f2
  simp [ac_spec_l31Tag, assoc_v, Packet.v, Packet.cells, csl]
  refine go_loop (fun i => { env := [(1, .bool byB), (3, .ptr 3 0), (5, .ptr 5 0), (7, .int .i64 (i : Nat))], loc := [], box := [(5, [.undef, .undef, .undef, csl p.chunks]), (3, x.cells)], stat := [] }) (fun i => i ≤ p.chunks.length ∧ ∀ j, j < i → (nth p.chunks j).kind ≠ 1) (fun i => p.chunks.length - i) 0 ⟨by omega, by omega⟩ (Weak.of [] [(3, 3), (5, 5)] (by simp [csl, Assoc.cells, Side.cells, psl])) ?_
  rintro i ⟨hi, hno⟩
  simp [csl, Assoc.cells, Side.cells, psl]
  refine goTest_dec (fun hlt => ?_) (fun hge => ?_)
  · simp [hlt, chunk_v]
    refine goTest_dec (fun q => ?_) (fun q => ?_)
    · have e : tagS x byB p = 0 := by
        unfold tagS; rw [if_pos]
        exact List.any_eq_true.2 ⟨_, nth_mem hlt, by simp [q]⟩
      rw [e]
      simp
      exact Ends.mk [] [] (by simp)
    · simp
      refine ⟨by omega, ?_⟩
      refine Again.mk (i + 1) ⟨hlt, fun j hj => ?_⟩ (by omega) (Weak.of [] [(3, 3), (5, 5)] (by simp [csl, Assoc.cells, Side.cells, psl]))
      rcases Nat.lt_succ_iff_lt_or_eq.1 hj with h | rfl
      · exact hno j h
      · exact q
  · obtain rfl : i = p.chunks.length := by omega
    have e : tagS x byB p = (x.other byB).tag := by
      unfold tagS; rw [if_neg]
      intro h
      obtain ⟨c, hc, hk⟩ := List.any_eq_true.1 h
      obtain ⟨j, hj, rfl⟩ := List.getElem_of_mem hc
      have := hno j hj
      rw [nth_eq hj] at this
      exact this (by simpa using hk)
    rw [e]
    simp
    refine goCall_eq f2 (by simp) ?_
    simp
    exact Ends.mk [] [] (by simp)
end

end Go.Proofs.YtnhhcfbigjpfeaaGreatDoor
