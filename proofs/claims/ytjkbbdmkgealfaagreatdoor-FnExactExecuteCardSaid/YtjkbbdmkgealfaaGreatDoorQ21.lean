/-
  Sides and associations that are valid.
  Associations that are valid; copies.
  Sides of an association; copies.
  One chunk, by the reference.
  One chunk, by the reference: ends and cookies.
  One chunk, by the reference: parts.
  One chunk, by the reference: receipts.
-/
import Derived.Test.YtjkbbdmkgealfaaGreatDoorQ20
namespace Go.Proofs.YtjkbbdmkgealfaaGreatDoor
set_option linter.all false
section
set_option maxRecDepth 200000
attribute [-simp] List.getD_eq_getElem?_getD
def Side.bd (s : Side) : Prop := (-1000 ≤ s.first ∧ s.first ≤ 1000000000) ∧ s.sent.length ≤ 1000
theorem sideTag (s : Side) (h : ¬ s.tag = 0) : s.ok = (allTo (partAt s) s.sent.length && inB s.tag 1 4294967295 && inB s.streams 1 4 && inS s.first && decide (s.sent.length ≤ 12) && inB s.acked 0 s.sent.length) := by
  unfold Side.ok; rw [if_neg h]
theorem spec_SideValid_ok (s : Side) (hb : s.bd) : Fn Tryz.prog fn_spec_SideValid [s.v] [] (.bool s.ok) [] := by
  refine Fn.of_go ln_spec_SideValid rfl ?_
  obtain ⟨⟨hb1, hb2⟩, hb3⟩ := hb
  simp [ac_spec_SideValid, Side.v, Side.cells, psl]
  refine goTest_dec (fun h0 => ?_) (fun h0 => ?_)
  · have e : s.ok = (decide (s.streams = 0) && decide (s.first = 0) && decide (s.sent.length = 0) && decide (s.acked = 0)) := by unfold Side.ok; rw [if_pos h0]
    rw [e]
    simp [h0]
    repeat' (first
      | (refine goTest_dec (fun h => ?_) (fun h => ?_) <;> simp [h])
      | (refine Ends.mk [] [] ?_; simp [*] <;> fail))
  · rw [sideTag s h0]
    simp [h0]
    refine go_loop (fun i => { env := [(1, .ptr 1 0), (3, .int .i64 (i : Nat))], loc := [], box := [(1, s.cells)], stat := [] }) (fun i => i ≤ s.sent.length ∧ allTo (partAt s) i = true) (fun i => s.sent.length - i) 0 ⟨by omega, rfl⟩ (Weak.of [] [(1, 1)] (by simp [Side.cells, psl])) ?_
    rintro i ⟨hi, hp⟩
    simp [Side.cells, psl]
    refine goTest_dec (fun hlt => ?_) (fun hge => ?_)
    · have f1 := l12Data_ok (nth s.sent i)
      have f2 := l3Add_ok s.first i (by omega) (by omega) (by omega)
      have f3 := l31Follows_ok (s.sent.take i) (nth s.sent i) (by simp; omega)
      have hbad : partAt s i = false → allTo (partAt s) s.sent.length = false := allTo_false hlt
      have hgood : partAt s i = true → allTo (partAt s) (i + 1) = true := allTo_succ hp
      simp only [partAt] at hbad hgood
      simp [hlt, Part.v, Part.cells]
      generalize hx : nth s.sent i = x at *
      simp only [Part.v, Part.cells, psl, List.map_take] at f1 f3
      repeat' (first
        | (refine goTest_dec (fun h => ?_) (fun h => ?_) <;> simp [h])
        | (refine goTest_bool (fun h => ?_) (fun h => ?_) <;> simp [h])
        | (refine goDCall_eq f1 (by simp) (by simp) ?_; simp)
        | (refine goDCall_eq f2 (by simp) (by simp) ?_; simp)
        | (refine goDCall_eq f3 (by simp) (by simp) ?_; simp)
        | (refine goCall_eq f3 (by simp) ?_; simp)
        | (have f4 := f3; rw [‹x.tsn = addS s.first (i : Int)›] at f4; refine goCall_eq f4 (by simp) ?_; simp)
        | (refine And.intro (by omega) ?_)
        | (refine Again.mk (i + 1) ⟨hlt, hgood (by simp [*] <;> omega)⟩ (by omega) (Weak.of [] [(1, 1)] ?_); simp [Side.cells, psl] <;> fail)
        | (refine Ends.mk [] [] ?_; simp [hbad (by simp [*] <;> omega)] <;> fail))
    · obtain rfl : i = s.sent.length := by omega
      simp
      repeat' (first
        | (refine goTest_dec (fun h => ?_) (fun h => ?_) <;> simp [h])
        | (refine goTest_bool (fun h => ?_) (fun h => ?_) <;> simp [h])
        | (refine goCall_eq (l6In_ok _ _ _) (by simp) ?_; simp)
        | (refine goCall_eq (l3Ok_ok _) (by simp) ?_; simp)
        | (refine goDCall_eq (l6In_ok _ _ _) (by simp) (by simp) ?_; simp)
        | (refine goDCall_eq (l3Ok_ok _) (by simp) (by simp) ?_; simp)
        | (refine Ends.mk [] [] ?_; simp [*] <;> fail))
theorem impl_SideValid_ok (s : Side) (hb : s.bd) : Fn Tryz.prog fn_impl_SideValid [s.v] [] (.bool s.ok) [] := by
  refine Fn.of_go ln_impl_SideValid rfl ?_
  obtain ⟨⟨hb1, hb2⟩, hb3⟩ := hb
  simp [ac_impl_SideValid, Side.v, Side.cells, psl]
  refine goTest_dec (fun h0 => ?_) (fun h0 => ?_)
  · have e : s.ok = (decide (s.streams = 0) && decide (s.first = 0) && decide (s.sent.length = 0) && decide (s.acked = 0)) := by unfold Side.ok; rw [if_pos h0]
    rw [e]
    simp [h0]
    repeat' (first
      | (refine goTest_dec (fun h => ?_) (fun h => ?_) <;> simp [h])
      | (refine Ends.mk [] [] ?_; simp [*] <;> fail))
  · rw [sideTag s h0]
    simp [h0]
    have hh : ∀ b, (b = allTo (partAt s) s.sent.length) → (b && inB s.tag 1 4294967295 && inB s.streams 1 4 && inS s.first && decide (s.sent.length ≤ 12) && inB s.acked 0 s.sent.length) = (b && decide ((1 ≤ s.tag ∧ s.tag ≤ 4294967295) ∧ (1 ≤ s.streams ∧ s.streams ≤ 4) ∧ inS s.first = true ∧ s.sent.length ≤ 12 ∧ 0 ≤ s.acked ∧ s.acked ≤ s.sent.length)) := fun b _ => by
      cases b <;> simp [inB, Bool.and_assoc]
    rw [hh _ rfl]
    repeat' (first
      | (refine goTest_dec (fun h => ?_) (fun h => ?_) <;> simp [h])
      | (refine goTest_bool (fun h => ?_) (fun h => ?_) <;> simp [h])
      | (refine goCall_eq (serialOk_ok _) (by simp) ?_; simp)
      | (refine Ends.mk [] [] ?_; simp [*] <;> fail)
      | (refine Ends.mk [] [] ?_; simp [*] <;> omega)
      | (refine go_loop (fun i => { env := [(1, .ptr 1 0), (71, psl s.sent), (72, .int .i64 (s.sent.length : Nat)), (73, .int .i64 (i : Nat))], loc := [], box := [(1, s.cells)], stat := [] }) (fun i => i ≤ s.sent.length ∧ allTo (partAt s) i = true) (fun i => s.sent.length - i) 0 ⟨by omega, rfl⟩ (Weak.of [] [(1, 1)] (by simp [Side.cells, psl])) ?_))
    rename_i g1 g2 g3 g4 g5 g6 g7
    rintro i ⟨hi, hp⟩
    simp [Side.cells, psl]
    refine goTest_dec (fun hlt => ?_) (fun hge => ?_)
    · have f1 := dataOk_ok (nth s.sent i)
      have f2 := impl_SerialAdd_ok s.first i (by omega)
      rw [if_pos g5] at f2
      have f3 := mayFollow_ok (s.sent.take i) (nth s.sent i) (by simp; omega)
      have hbad : partAt s i = false → allTo (partAt s) s.sent.length = false := allTo_false hlt
      have hgood : partAt s i = true → allTo (partAt s) (i + 1) = true := allTo_succ hp
      simp only [partAt] at hbad hgood
      simp [hlt, Part.v, Part.cells]
      generalize hx : nth s.sent i = x at *
      simp only [Part.v, Part.cells, psl, List.map_take] at f1 f3
      repeat' (first
        | (refine goTest_dec (fun h => ?_) (fun h => ?_) <;> simp [h])
        | (refine goTest_bool (fun h => ?_) (fun h => ?_) <;> simp [h])
        | (refine goDCall_eq f1 (by simp) (by simp) ?_; simp)
        | (refine goDCall_eq f2 (by simp) (by simp) ?_; simp)
        | (refine goDCall_eq f3 (by simp) (by simp) ?_; simp)
        | (refine goCall_eq f3 (by simp) ?_; simp)
        | (have f4 := f3; rw [‹x.tsn = addS s.first (i : Int)›] at f4; refine goCall_eq f4 (by simp) ?_; simp)
        | (refine And.intro (by omega) ?_)
        | (refine Again.mk (i + 1) ⟨hlt, hgood (by simp [*] <;> omega)⟩ (by omega) (Weak.of [] [(1, 1)] ?_); simp [Side.cells, psl] <;> fail)
        | (refine Ends.mk [] [] ?_; simp [hbad (by simp [*] <;> omega)] <;> fail))
    · obtain rfl : i = s.sent.length := by omega
      simp
      exact Ends.mk [] [] (by simp [hp]; omega)
end
section
set_option maxRecDepth 200000
attribute [-simp] List.getD_eq_getElem?_getD
def Assoc.bd (x : Assoc) : Prop := x.a.bd ∧ x.b.bd
theorem assoc_iff (x : Assoc) : x.ok = true ↔ ((1 ≤ x.src ∧ x.src ≤ 65535) ∧ (1 ≤ x.dst ∧ x.dst ≤ 65535) ∧ x.src ≠ x.dst ∧ (0 ≤ x.state ∧ x.state ≤ 7) ∧ x.a.ok = true ∧ x.b.ok = true ∧ (0 < x.a.tag ↔ 1 ≤ x.state) ∧ (x.state = 7 ∨ (0 < x.b.tag ↔ 2 ≤ x.state)) ∧ (3 ≤ x.state ∨ x.a.sent.length + x.b.sent.length ≤ 0) ∧ (x.byB = true → 5 ≤ x.state)) := by
  cases hb : x.byB <;> simp [Assoc.ok, inB, hb, and_assoc]
theorem l31Open_ok (n : Int) : Fn Tryz.prog fn_spec_l31Open [.int .i64 n] [] (.bool (inB n 3 7)) [] := by
  refine Fn.of_go ln_spec_l31Open rfl ?_
  simp [ac_spec_l31Open]
  refine goCall_eq (l6In_ok _ _ _) (by simp) ?_
  simp
  exact Ends.mk [] [] (by simp)
theorem inB_dec (n a b : Int) : inB n a b = decide (a ≤ n ∧ n ≤ b) := by rw [Bool.eq_iff_iff]; simp [inB]
theorem bne_cases (p q : Prop) [Decidable p] [Decidable q] : ((p ↔ q) ∧ (decide p != decide q) = false) ∨ (¬ (p ↔ q) ∧ (decide p != decide q) = true) := by
  by_cases hp : p <;> by_cases hq : q <;> simp [hp, hq]
theorem spec_AssocValid_ok (x : Assoc) (hb : x.bd) : Fn Tryz.prog fn_spec_AssocValid [x.v] [] (.bool x.ok) [] := by
  refine Fn.of_go ln_spec_AssocValid rfl ?_
  have f1 := spec_SideValid_ok x.a hb.1
  have f2 := spec_SideValid_ok x.b hb.2
  have l1 := hb.1.2
  have l2 := hb.2.2
  simp only [Side.v, Side.cells, psl] at f1 f2
  have key := assoc_iff x
  rcases bne_cases (0 < x.a.tag) (1 ≤ x.state) with ⟨hA, eA⟩ | ⟨hA, eA⟩ <;> rcases bne_cases (0 < x.b.tag) (2 ≤ x.state) with ⟨hB, eB⟩ | ⟨hB, eB⟩
  all_goals simp [ac_spec_AssocValid, Assoc.v, Assoc.cells, Side.cells, psl, eA, eB]
  repeat' (first
    | (refine goTest_dec (fun h => ?_) (fun h => ?_) <;> simp [h, eA, eB])
    | (refine goTest_bool (fun h => ?_) (fun h => ?_) <;> simp [h, eA, eB])
    | (refine goCall_eq (l6In_ok _ _ _) (by simp) ?_; simp [inB_dec, -Bool.decide_and, eA, eB])
    | (refine goCall_eq (l31Open_ok _) (by simp) ?_; simp [inB_dec, -Bool.decide_and, eA, eB])
    | (refine goCall_eq f1 (by simp) ?_; simp [eA, eB])
    | (refine goCall_eq f2 (by simp) ?_; simp [eA, eB])
    | (refine goDCall_eq f1 (by simp) (by simp) ?_; simp [eA, eB])
    | (refine goDCall_eq f2 (by simp) (by simp) ?_; simp [eA, eB])
    | (refine And.intro (by omega) ?_)
    | (refine Ends.mk [] [] ?_; clear f1 f2 eA eB; simp; refine Bool.eq_false_iff.2 (fun q => ?_); obtain ⟨q1, q2, q3, q4, q5, q6, q7, q8, q9, q10⟩ := key.1 q; first | omega | (simp_all <;> omega))
    | (refine Ends.mk [] [] ?_; clear f1 f2 eA eB; have e : x.ok = decide (5 ≤ x.state) := (by rw [Bool.eq_iff_iff, key, decide_eq_true_iff]; exact ⟨fun q => q.2.2.2.2.2.2.2.2.2 ‹x.byB = true›, fun q => ⟨by omega, by omega, by omega, by omega, by assumption, by assumption, by omega, by omega, by omega, fun _ => q⟩⟩); simp [e] <;> omega)
    | (refine Ends.mk [] [] ?_; clear f1 f2 eA eB; simp; refine key.2 ⟨by omega, by omega, by omega, by omega, by assumption, by assumption, by omega, by omega, by omega, fun q => ?_⟩; simp_all <;> omega))
theorem impl_AssocValid_ok (x : Assoc) (hb : x.bd) : Fn Tryz.prog fn_impl_AssocValid [x.v] [] (.bool x.ok) [] := by
  refine Fn.of_go ln_impl_AssocValid rfl ?_
  have f1 := impl_SideValid_ok x.a hb.1
  have f2 := impl_SideValid_ok x.b hb.2
  have l1 := hb.1.2
  have l2 := hb.2.2
  simp only [Side.v, Side.cells, psl] at f1 f2
  have key := assoc_iff x
  rcases bne_cases (0 < x.a.tag) (1 ≤ x.state) with ⟨hA, eA⟩ | ⟨hA, eA⟩ <;> rcases bne_cases (0 < x.b.tag) (2 ≤ x.state) with ⟨hB, eB⟩ | ⟨hB, eB⟩
  all_goals simp [ac_impl_AssocValid, Assoc.v, Assoc.cells, Side.cells, psl, eA, eB]
  repeat' (first
    | (refine goTest_dec (fun h => ?_) (fun h => ?_) <;> simp [h, eA, eB])
    | (refine goTest_bool (fun h => ?_) (fun h => ?_) <;> simp [h, eA, eB])
    | (refine goCall_eq f1 (by simp) ?_; simp [eA, eB])
    | (refine goCall_eq f2 (by simp) ?_; simp [eA, eB])
    | (refine goDCall_eq f1 (by simp) (by simp) ?_; simp [eA, eB])
    | (refine goDCall_eq f2 (by simp) (by simp) ?_; simp [eA, eB])
    | (refine And.intro (by omega) ?_)
    | (refine Ends.mk [] [] ?_; clear f1 f2 eA eB; simp; refine Bool.eq_false_iff.2 (fun q => ?_); obtain ⟨q1, q2, q3, q4, q5, q6, q7, q8, q9, q10⟩ := key.1 q; first | omega | (simp_all <;> omega))
    | (refine Ends.mk [] [] ?_; clear f1 f2 eA eB; have e : x.ok = decide (5 ≤ x.state) := (by rw [Bool.eq_iff_iff, key, decide_eq_true_iff]; exact ⟨fun q => q.2.2.2.2.2.2.2.2.2 ‹x.byB = true›, fun q => ⟨by omega, by omega, by omega, by omega, by assumption, by assumption, by omega, by omega, by omega, fun _ => q⟩⟩); simp [e] <;> omega)
    | (refine Ends.mk [] [] ?_; clear f1 f2 eA eB; simp; refine key.2 ⟨by omega, by omega, by omega, by omega, by assumption, by assumption, by omega, by omega, by omega, fun q => ?_⟩; simp_all <;> omega))
end
section
set_option maxRecDepth 200000
attribute [-simp] List.getD_eq_getElem?_getD
theorem l31Side_ok (x : Assoc) (byB : Bool) : Fn Tryz.prog fn_spec_l31Side [x.v, .bool byB] [] (.tup [(x.side byB).v, (x.other byB).v]) [] := by
  refine Fn.of_go ln_spec_l31Side rfl ?_
  cases byB
  · simp [ac_spec_l31Side, Assoc.v, Assoc.cells, Side.cells, psl]
    exact Ends.mk [] [] (by simp [Assoc.side, Assoc.other, Side.v, Side.cells, psl])
  · simp [ac_spec_l31Side, Assoc.v, Assoc.cells, Side.cells, psl]
    exact Ends.mk [] [] (by simp [Assoc.side, Assoc.other, Side.v, Side.cells, psl])
theorem l31With_ok (x : Assoc) (byB : Bool) (s : Side) : Fn Tryz.prog fn_spec_l31With [x.v, .bool byB, s.v] [] (x.with byB s).v [] := by
  refine Fn.of_go ln_spec_l31With rfl ?_
  cases byB
  · simp [ac_spec_l31With, Assoc.v, Assoc.cells, Side.v, Side.cells, psl]
    exact Ends.mk [] [] (by simp [Assoc.with, Side.v, Side.cells, psl])
  · simp [ac_spec_l31With, Assoc.v, Assoc.cells, Side.v, Side.cells, psl]
    exact Ends.mk [] [] (by simp [Assoc.with, Side.v, Side.cells, psl])
theorem l31Side2_ok (s : Side) (hl : s.sent.length ≤ 1000000) : Fn Tryz.prog fn_spec_l31Side2 [s.v] [] (.agg (s.own 0)) [] := by
  refine Fn.of_go ln_spec_l31Side2 rfl ?_
  simp [ac_spec_l31Side2, Side.v, Side.cells, psl]
  exact ⟨⟨fun a _ => rfl, by unfold roomOk; omega⟩, Ends.mk [(0, some 48, s.sent.length, 7)] [] (by simp [Side.own])⟩
theorem l31Copy_ok (x : Assoc) (ha : x.a.sent.length ≤ 1000000) (hb : x.b.sent.length ≤ 1000000) : Fn Tryz.prog fn_spec_l31Copy [x.v] [] (.agg (x.own 0 1)) [] := by
  refine Fn.of_go ln_spec_l31Copy rfl ?_
  have f1 := l31Side2_ok x.a ha
  have f2 := l31Side2_ok x.b hb
  simp only [Side.v, Side.cells, psl, Side.own] at f1 f2
  simp [ac_spec_l31Copy, Assoc.v, Assoc.cells, Side.cells, psl]
  refine goCall_eq f1 (by simp) ?_
  simp
  refine goCall_eq f2 (by simp) ?_
  simp
  exact Ends.mk [(0, some 80, x.a.sent.length, 7), (1, some 144, x.b.sent.length, 7)] [] (by simp [Assoc.own, Side.own])
theorem copyAssoc_ok (x : Assoc) (ha : x.a.sent.length ≤ 1000000) (hb : x.b.sent.length ≤ 1000000) : Fn Tryz.prog fn_impl_copyAssoc [x.v] [] (.agg (x.own 0 1)) [] := by
  refine Fn.of_go ln_impl_copyAssoc rfl ?_
  simp [ac_impl_copyAssoc, Assoc.v, Assoc.cells, Side.cells, psl]
  exact ⟨⟨fun a _ => rfl, by unfold roomOk; omega⟩, ⟨fun a _ => rfl, by unfold roomOk; omega⟩, Ends.mk [(0, some 48, x.a.sent.length, 7), (1, some 160, x.b.sent.length, 7)] [] (by simp [Assoc.own, Side.own])⟩
theorem assoc_v (x : Assoc) : x.v = .agg [.int .i64 x.src, .int .i64 x.dst, .int .i64 x.state, .bool x.byB, .int .i64 x.a.tag, .int .i64 x.a.streams, .int .i64 x.a.first, .sl none 7 (x.a.sent.map Part.v), .int .i64 x.a.acked, .int .i64 x.b.tag, .int .i64 x.b.streams, .int .i64 x.b.first, .sl none 7 (x.b.sent.map Part.v), .int .i64 x.b.acked] := rfl
theorem side_v (s : Side) : s.v = .agg [.int .i64 s.tag, .int .i64 s.streams, .int .i64 s.first, .sl none 7 (s.sent.map Part.v), .int .i64 s.acked] := rfl
theorem chunk_v (c : Chunk) : c.v = .agg [.int .i64 c.kind, .int .i64 c.flags, .str c.body] := rfl
theorem hi_v (h : Hello) : h.v = .agg [.int .i64 h.tag, .int .i64 h.window, .int .i64 h.streams, .int .i64 h.tsn] := rfl
theorem pt_v (d : Part) : d.v = .agg [.int .i64 d.tsn, .int .i64 d.stream, .int .i64 d.ssn, .bool d.first, .bool d.last, .bool d.loose, .str d.text] := rfl
theorem sk_v (x : Sack) : x.v = .agg [.int .i64 x.cum, .sl none 2 (x.gaps.map gV)] := rfl
theorem part_ne (a d : Part) : (!decide (a.tsn = d.tsn) || (!decide (a.stream = d.stream) || (!decide (a.ssn = d.ssn) || (!a.first == d.first || (!a.last == d.last || (!a.loose == d.loose || !decide (a.text = d.text))))))) = !decide (a = d) := by
  rw [Bool.eq_iff_iff]
  cases a; cases d
  simp
def resC (r : Assoc × Int) : V := .tup [r.1.v, .int .i64 r.2]
theorem l31SideF (p1 p2 p3 : Int) (w : Bool) (a1 a2 a3 : Int) (ps : List Part) (a4 b1 b2 b3 : Int) (qs : List Part) (b4 : Int) :
    Fn Tryz.prog fn_spec_l31Side [.agg [.int .i64 p1, .int .i64 p2, .int .i64 p3, .bool w, .int .i64 a1, .int .i64 a2, .int .i64 a3, .sl none 7 (ps.map Part.v), .int .i64 a4, .int .i64 b1, .int .i64 b2, .int .i64 b3, .sl none 7 (qs.map Part.v), .int .i64 b4], .bool false] []
      (.tup [.agg [.int .i64 a1, .int .i64 a2, .int .i64 a3, .sl none 7 (ps.map Part.v), .int .i64 a4], .agg [.int .i64 b1, .int .i64 b2, .int .i64 b3, .sl none 7 (qs.map Part.v), .int .i64 b4]]) [] :=
  l31Side_ok ⟨p1, p2, p3, w, ⟨a1, a2, a3, ps, a4⟩, ⟨b1, b2, b3, qs, b4⟩⟩ false
theorem l31SideT (p1 p2 p3 : Int) (w : Bool) (a1 a2 a3 : Int) (ps : List Part) (a4 b1 b2 b3 : Int) (qs : List Part) (b4 : Int) :
    Fn Tryz.prog fn_spec_l31Side [.agg [.int .i64 p1, .int .i64 p2, .int .i64 p3, .bool w, .int .i64 a1, .int .i64 a2, .int .i64 a3, .sl none 7 (ps.map Part.v), .int .i64 a4, .int .i64 b1, .int .i64 b2, .int .i64 b3, .sl none 7 (qs.map Part.v), .int .i64 b4], .bool true] []
      (.tup [.agg [.int .i64 b1, .int .i64 b2, .int .i64 b3, .sl none 7 (qs.map Part.v), .int .i64 b4], .agg [.int .i64 a1, .int .i64 a2, .int .i64 a3, .sl none 7 (ps.map Part.v), .int .i64 a4]]) [] :=
  l31Side_ok ⟨p1, p2, p3, w, ⟨a1, a2, a3, ps, a4⟩, ⟨b1, b2, b3, qs, b4⟩⟩ true
theorem Ends_ite {rs : List ARes} {bo : List (List V)} {st : St} {c : Prop} [Decidable c] {a b : Assoc × Int} (h1 : c → Ends rs (resC a) bo st) (h2 : ¬ c → Ends rs (resC b) bo st) : Ends rs (resC (if c then a else b)) bo st := by
  split
  · exact h1 ‹_›
  · exact h2 ‹_›
theorem imax (a b : Int) : max a b = if a < b then b else a := by
  split <;> omega
end
section
set_option maxRecDepth 200000
set_option maxHeartbeats 8000000
attribute [-simp] List.getD_eq_getElem?_getD
theorem l31Init_ok (x : Assoc) (byB : Bool) (c : Chunk) (hb : c.body.length ≤ 1000000) (hs : 0 ≤ x.state ∧ x.state ≤ 7) : Fn Tryz.prog fn_spec_l31Init [x.v, .bool byB, c.v] [] (resC (stepHello x byB c)) [] := by
  refine Fn.of_go ln_spec_l31Init rfl ?_
  have f1 := spec_InitGet_ok c hb
  simp only [chunk_v] at f1
  cases byB
  · cases hg : getHello c with
    | none =>
      rw [hg] at f1
      simp [optV, zHello_v] at f1
      simp [ac_spec_l31Init, assoc_v, chunk_v]
      refine goCall_eq f1 (by simp) ?_
      simp
      repeat' (first
        | (refine goTest_dec (fun q => ?_) (fun q => ?_) <;> simp [q])
        | (refine goCall_eq (l6In_ok _ _ _) (by simp) ?_; simp [inB_dec, -Bool.decide_and])
        | (refine goCall_eq (l31SideF _ _ _ _ _ _ _ _ _ _ _ _ _ _) (by simp) ?_; simp)
        | (refine Ends.mk [] [] ?_; simp [resC, assoc_v, stepHello, Assoc.side, *] <;> fail)
        | (refine Ends.mk [] [] ?_; simp [resC, assoc_v, stepHello, Assoc.side, *] <;> omega))
    | some h =>
      rw [hg] at f1
      simp [optV, hi_v] at f1
      simp [ac_spec_l31Init, assoc_v, chunk_v]
      refine goCall_eq f1 (by simp) ?_
      simp
      repeat' (first
        | (refine goTest_dec (fun q => ?_) (fun q => ?_) <;> simp [q])
        | (refine goCall_eq (l6In_ok _ _ _) (by simp) ?_; simp [inB_dec, -Bool.decide_and])
        | (refine goCall_eq (l31SideF _ _ _ _ _ _ _ _ _ _ _ _ _ _) (by simp) ?_; simp)
        | (refine And.intro (by omega) ?_)
        | (refine goCall_gen [] [] [2016] [] none (l31With_ok { x with state := x.state + 1 } false ⟨h.tag, h.streams, h.tsn, [], 0⟩) (by simp [assoc_v, side_v, Assoc.with] <;> omega) ?_; simp [assoc_v, side_v, Assoc.with])
        | (refine Ends.mk [] [] ?_; simp [resC, assoc_v, stepHello, Assoc.side, Assoc.with, *] <;> fail)
        | (refine Ends.mk [] [] ?_; simp [resC, assoc_v, stepHello, Assoc.side, Assoc.with, *] <;> omega))
  · cases hg : getHello c with
    | none =>
      rw [hg] at f1
      simp [optV, zHello_v] at f1
      simp [ac_spec_l31Init, assoc_v, chunk_v]
      refine goCall_eq f1 (by simp) ?_
      simp
      repeat' (first
        | (refine goTest_dec (fun q => ?_) (fun q => ?_) <;> simp [q])
        | (refine goCall_eq (l6In_ok _ _ _) (by simp) ?_; simp [inB_dec, -Bool.decide_and])
        | (refine goCall_eq (l31SideT _ _ _ _ _ _ _ _ _ _ _ _ _ _) (by simp) ?_; simp)
        | (refine Ends.mk [] [] ?_; simp [resC, assoc_v, stepHello, Assoc.side, *] <;> fail)
        | (refine Ends.mk [] [] ?_; simp [resC, assoc_v, stepHello, Assoc.side, *] <;> omega))
    | some h =>
      rw [hg] at f1
      simp [optV, hi_v] at f1
      simp [ac_spec_l31Init, assoc_v, chunk_v]
      refine goCall_eq f1 (by simp) ?_
      simp
      repeat' (first
        | (refine goTest_dec (fun q => ?_) (fun q => ?_) <;> simp [q])
        | (refine goCall_eq (l6In_ok _ _ _) (by simp) ?_; simp [inB_dec, -Bool.decide_and])
        | (refine goCall_eq (l31SideT _ _ _ _ _ _ _ _ _ _ _ _ _ _) (by simp) ?_; simp)
        | (refine And.intro (by omega) ?_)
        | (refine goCall_gen [] [] [2016] [] none (l31With_ok { x with state := x.state + 1 } true ⟨h.tag, h.streams, h.tsn, [], 0⟩) (by simp [assoc_v, side_v, Assoc.with] <;> omega) ?_; simp [assoc_v, side_v, Assoc.with])
        | (refine Ends.mk [] [] ?_; simp [resC, assoc_v, stepHello, Assoc.side, Assoc.with, *] <;> fail)
        | (refine Ends.mk [] [] ?_; simp [resC, assoc_v, stepHello, Assoc.side, Assoc.with, *] <;> omega))
end
section
set_option maxRecDepth 200000
set_option maxHeartbeats 8000000
attribute [-simp] List.getD_eq_getElem?_getD
theorem l31Cookie_ok (x : Assoc) (byB : Bool) (kind : Int) (hs : 0 ≤ x.state ∧ x.state ≤ 7) : Fn Tryz.prog fn_spec_l31Cookie [x.v, .bool byB, .int .i64 kind] [] (resC (stepCookie x byB kind)) [] := by
  refine Fn.of_go ln_spec_l31Cookie rfl ?_
  cases byB <;> simp [ac_spec_l31Cookie, assoc_v]
  all_goals
    repeat' (first
      | (refine goTest_dec (fun q => ?_) (fun q => ?_) <;> simp [q])
      | (refine goCall_eq (l6In_ok _ _ _) (by simp) ?_; simp [inB_dec, -Bool.decide_and])
      | (refine Ends.mk [] [] ?_; simp [resC, assoc_v, stepCookie, *] <;> fail)
      | (refine Ends.mk [] [] ?_; simp [resC, assoc_v, stepCookie, *] <;> omega))
theorem l31End_ok (x : Assoc) (byB : Bool) (kind : Int) (hs : 0 ≤ x.state ∧ x.state ≤ 7) : Fn Tryz.prog fn_spec_l31End [x.v, .bool byB, .int .i64 kind] [] (resC (stepEnd x byB kind)) [] := by
  refine Fn.of_go ln_spec_l31End rfl ?_
  have f2 := l31Side_ok x byB
  simp only [assoc_v, side_v] at f2
  cases byB <;> simp [Assoc.side, Assoc.other] at f2
  all_goals
    cases hw : x.byB
    all_goals
      simp [hw] at f2
      simp [ac_spec_l31End, assoc_v, hw]
      refine goCall_eq f2 (by simp) ?_
      simp
      repeat' (first
        | (refine goTest_dec (fun q => ?_) (fun q => ?_) <;> simp [q])
        | (refine goCall_eq (l6In_ok _ _ _) (by simp) ?_; simp [inB_dec, -Bool.decide_and])
        | (refine Ends.mk [] [] ?_; simp [resC, assoc_v, stepEnd, Assoc.side, *] <;> fail)
        | (refine Ends.mk [] [] ?_; simp [resC, assoc_v, stepEnd, Assoc.side, *] <;> omega))
end
section
set_option maxRecDepth 200000
set_option maxHeartbeats 8000000
attribute [-simp] List.getD_eq_getElem?_getD
theorem getPart_ok {c : Chunk} {d : Part} (h : getPart c = some d) : d.ok = true ∧ 0 ≤ d.tsn ∧ d.tsn ≤ 65535 := by
  unfold getPart at h
  split at h
  · split at h
    · rename_i h2
      obtain rfl : c.part = d := by simpa using h
      refine ⟨h2, ?_⟩
      simp [Part.ok, inS] at h2
      omega
    · cases h
  · cases h
theorem l31Data_ok (x : Assoc) (byB : Bool) (c : Chunk) (hb : c.body.length ≤ 1000000) (hs : 0 ≤ x.state ∧ x.state ≤ 7) (hx : x.bd) : Fn Tryz.prog fn_spec_l31Data [x.v, .bool byB, c.v] [] (resC (stepPart x byB c)) [] := by
  refine Fn.of_go ln_spec_l31Data rfl ?_
  have f1 := spec_DataGet_ok c hb
  have f2 := l31Side_ok x byB
  have hsd : (x.side byB).bd := by cases byB <;> simp [Assoc.side, hx.1, hx.2]
  obtain ⟨⟨hf1, hf2⟩, hf3⟩ := hsd
  generalize hsv : x.side byB = s at *
  simp only [assoc_v, side_v, chunk_v] at f1 f2
  cases hg : getPart c with
  | none =>
    rw [hg] at f1
    simp [optV, zPart_v] at f1
    simp [ac_spec_l31Data, assoc_v, chunk_v]
    refine goCall_eq f1 (by simp) ?_
    simp
    refine goCall_eq f2 (by simp) ?_
    simp
    cases byB <;> cases hw : x.byB
    repeat' (first
      | (refine goTest_dec (fun q => ?_) (fun q => ?_) <;> simp [q])
      | (refine Ends.mk [] [] ?_; simp [resC, assoc_v, stepPart, *] <;> fail)
      | (refine Ends.mk [] [] ?_; simp [resC, assoc_v, stepPart, *] <;> omega))
  | some d =>
    rw [hg] at f1
    simp [optV, pt_v] at f1
    obtain ⟨hd, hd1, hd2⟩ := getPart_ok hg
    have f3 := l3Add_ok d.tsn (-s.first) (by omega) (by omega) (by omega)
    have hk : 0 ≤ addS d.tsn (-s.first) ∧ addS d.tsn (-s.first) < 65536 := by unfold addS; omega
    have f4 := l31Follows_ok s.sent d (by omega)
    simp only [psl, pt_v] at f4
    simp [ac_spec_l31Data, assoc_v, chunk_v]
    refine goCall_eq f1 (by simp) ?_
    simp
    refine goCall_eq f2 (by simp) ?_
    simp
    refine ⟨by omega, ?_⟩
    refine goCall_eq f3 (by simp) ?_
    simp
    obtain ⟨k, hkk⟩ : ∃ k : Nat, addS d.tsn (-s.first) = k := ⟨(addS d.tsn (-s.first)).toNat, by omega⟩
    simp [hkk]
    have hst : stepPart x byB c = (
      if ¬ ((x.state = 4 ∨ (x.state = 3 ∧ byB = false)) ∨ (x.state = 5 ∧ byB ≠ x.byB)) then (x, 3) else
      if k < s.sent.length then (x, if nth s.sent k = d then 0 else 7) else
      if ¬ (x.state = 4 ∨ (x.state = 3 ∧ byB = false)) then (x, 3) else
      if d.stream ≥ s.streams then (x, 5) else
      if k > s.sent.length then (x, 6) else
      if followS s.sent d = false then (x, 8) else
      if s.sent.length ≥ 12 then (x, 11) else
      (x.with byB { s with sent := s.sent ++ [d] }, 0)) := by
      simp only [stepPart, hg, hsv, hkk]
      simp
    rw [hst]
    clear hst f1 f2 f3 hg hx
    cases byB <;> cases hw : x.byB
    repeat' (first
      | (exfalso; omega)
      | (refine goTest_dec (fun q => ?_) (fun q => ?_) <;> simp [q, pt_v, part_ne])
      | (refine goTest_bool (fun q => ?_) (fun q => ?_) <;> simp [q])
      | (refine goCall_eq f4 (by simp) ?_; simp)
      | (refine And.intro (by omega) ?_)
      | (refine And.intro (by unfold roomOk; omega) ?_)
      | (refine goCall_gen [] [] [1840] [] none (l31With_ok x false { s with sent := s.sent ++ [d] }) ?_ ?_; (· clear f4; simp [assoc_v, side_v, pt_v, *]; done); simp [assoc_v, side_v, pt_v])
      | (refine goCall_gen [] [] [1840] [] none (l31With_ok x true { s with sent := s.sent ++ [d] }) ?_ ?_; (· clear f4; simp [assoc_v, side_v, pt_v, *]; done); simp [assoc_v, side_v, pt_v])
      | (refine Ends.mk [] [] ?_; clear f4; simp [resC, assoc_v, pt_v, *] <;> fail)
      | (refine Ends.mk [] [] ?_; clear f4; simp [resC, assoc_v, pt_v, Assoc.with, *] <;> fail)
      | (refine Ends.mk [] [] ?_; clear f4; simp [resC, assoc_v, pt_v, *] <;> omega))
end
section
set_option maxRecDepth 200000
set_option maxHeartbeats 8000000
attribute [-simp] List.getD_eq_getElem?_getD
theorem getSack_ok {c : Chunk} {k : Sack} (h : getSack c = some k) : k.ok = true ∧ k = c.sack := by
  unfold getSack at h
  split at h
  · split at h
    · rename_i h2
      obtain rfl : c.sack = k := by simpa using h
      exact ⟨h2, rfl⟩
    · cases h
  · cases h
theorem gapsOk_le : ∀ (l : List (Int × Int)) (n : Int), gapsOk n l = true → ∀ g ∈ l, n + 2 ≤ g.2 ∧ g.2 ≤ 16
  | [], n, h, g, hg => absurd hg (List.not_mem_nil)
  | a :: r, n, h, g, hg => by
    simp only [gapsOk, Bool.and_eq_true, decide_eq_true_eq] at h
    obtain ⟨⟨⟨h1, h2⟩, h3⟩, h4⟩ := h
    rcases List.mem_cons.1 hg with rfl | hg
    · omega
    · have := gapsOk_le r _ h4 g hg
      omega
theorem sack_bd {k : Sack} (h : k.ok = true) : 0 ≤ k.cum ∧ k.cum ≤ 65535 ∧ k.gaps.length ≤ 8 ∧ ∀ g ∈ k.gaps, 2 ≤ g.2 ∧ g.2 ≤ 16 := by
  simp [Sack.ok, inS] at h
  exact ⟨h.1.2.1, by omega, h.2, fun g hg => by have := gapsOk_le _ _ h.1.1 g hg; omega⟩
theorem diffS_bd (a b : Int) : -32767 ≤ diffS a b ∧ diffS a b ≤ 32768 := by
  unfold diffS; split <;> omega
theorem l31Sack_ok (x : Assoc) (byB : Bool) (c : Chunk) (hb : c.body.length ≤ 1000000) (ho : (0 ≤ (x.other byB).first ∧ (x.other byB).first ≤ 65535) ∧ (x.other byB).sent.length ≤ 1000) : Fn Tryz.prog fn_spec_l31Sack [x.v, .bool byB, c.v] [] (resC (stepSack x byB c)) [] := by
  refine Fn.of_go ln_spec_l31Sack rfl ?_
  have f1 := spec_SackGet_ok c hb
  have f2 := l31Side_ok x byB
  obtain ⟨⟨hf1, hf2⟩, hf3⟩ := ho
  generalize hov : x.other byB = o at *
  simp only [assoc_v, side_v, chunk_v] at f1 f2
  cases hg : getSack c with
  | none =>
    rw [hg] at f1
    simp [optV, zSack_v] at f1
    simp [ac_spec_l31Sack, assoc_v, chunk_v]
    refine goCall_eq f1 (by simp) ?_
    simp
    refine goCall_eq f2 (by simp) ?_
    simp
    refine goCall_eq (l6In_ok _ _ _) (by simp) ?_
    simp [inB_dec, -Bool.decide_and]
    have hst : stepSack x byB c = (if ¬ (4 ≤ x.state ∧ x.state ≤ 5) then (x, 3) else (x, 4)) := by simp only [stepSack, hg]
    rw [hst]
    clear hst f1 f2 hg
    repeat' (first
      | (exfalso; omega)
      | (refine goTest_dec (fun q => ?_) (fun q => ?_) <;> simp [q])
      | (refine Ends.mk [] [] ?_; simp [resC, assoc_v, *] <;> fail))
  | some k =>
    rw [hg] at f1
    obtain ⟨hd, -⟩ := getSack_ok hg
    obtain ⟨hd1, hd2, hd3, hd4⟩ := sack_bd hd
    simp [optV, sk_v] at f1
    have f3 := l3Add_ok o.first (-1) (by omega) (by omega) (by omega)
    have hk : 0 ≤ addS o.first (-1) ∧ addS o.first (-1) < 65536 := by unfold addS; omega
    have f4 := l3Diff_ok (addS o.first (-1)) k.cum (by omega) (by omega)
    have hdb := diffS_bd (addS o.first (-1)) k.cum
    simp [ac_spec_l31Sack, assoc_v, chunk_v]
    refine goCall_eq f1 (by simp) ?_
    simp
    refine goCall_eq f2 (by simp) ?_
    simp
    refine goCall_eq (l6In_ok _ _ _) (by simp) ?_
    simp [inB_dec, -Bool.decide_and]
    have hst : stepSack x byB c = (if ¬ (4 ≤ x.state ∧ x.state ≤ 5) then (x, 3) else
      if ¬ (0 ≤ diffS (addS o.first (-1)) k.cum ∧ diffS (addS o.first (-1)) k.cum ≤ o.sent.length) ∨ ((match k.gaps.getLast? with
        | some g => diffS (addS o.first (-1)) k.cum + g.2
        | none => diffS (addS o.first (-1)) k.cum) : Int) > o.sent.length then (x, 9) else
      (x.with (!byB) { o with acked := if o.acked < diffS (addS o.first (-1)) k.cum then diffS (addS o.first (-1)) k.cum else o.acked }, 0)) := by
      simp only [stepSack, hg, hov, imax]
      rfl
    rw [hst]
    generalize diffS (addS o.first (-1)) k.cum = fin at *
    clear hst f1 f2 hg
    by_cases hn : k.gaps = []
    · simp [hn, -Bool.decide_and]
      repeat' (first
        | (exfalso; omega)
        | (refine goTest_dec (fun q => ?_) (fun q => ?_) <;> simp [q])
        | (refine goDCall_eq f3 (by simp) (by simp) ?_; simp)
        | (refine goCall_eq f4 (by simp) ?_; simp)
        | (refine goCall_eq (l6In_ok _ _ _) (by simp) ?_; simp [inB_dec, -Bool.decide_and])
        | (refine And.intro (by omega) ?_)
        | (refine goCall_gen [] [] [] [] none (l31With_ok x (!byB) { o with acked := if o.acked < fin then fin else o.acked }) ?_ ?_; (· clear f3 f4; simp [assoc_v, side_v, *]; done); simp [assoc_v, side_v])
        | (refine Ends_ite (fun q => ?_) (fun q => ?_))
        | (refine Ends.mk [] [] ?_; clear f4 f3; simp [resC, assoc_v] <;> fail)
        | (cases byB <;> refine Ends.mk [] [] ?_ <;> clear f4 f3 <;> simp [resC, assoc_v, Assoc.with] <;> fail))
    · have hl := List.length_pos_iff.2 hn
      have e1 : ((k.gaps.length : Int) - 1).toNat = k.gaps.length - 1 := by omega
      have e2 : k.gaps.length - 1 < k.gaps.length := by omega
      have hg2 := hd4 _ (nth_mem e2)
      have hgg : (nth k.gaps (k.gaps.length - 1)).2 = (nth k.gaps (k.gaps.length - 1)).2 := rfl
      rw [nth_last hn]
      simp only
      simp [hl, e1, e2, gV, -Bool.decide_and]
      generalize hgv : nth k.gaps (k.gaps.length - 1) = g at *
      repeat' (first
        | (exfalso; omega)
        | (refine goTest_dec (fun q => ?_) (fun q => ?_) <;> simp [q, hl, e1, e2, gV, hgv])
        | (refine goDCall_eq f3 (by simp) (by simp) ?_; simp [hl, e1, e2, gV, hgv])
        | (refine goCall_eq f4 (by simp) ?_; simp [hl, e1, e2, gV, hgv])
        | (refine goCall_eq (l6In_ok _ _ _) (by simp) ?_; simp [inB_dec, -Bool.decide_and])
        | (refine And.intro (by omega) ?_)
        | (refine goCall_gen [] [] [] [] none (l31With_ok x (!byB) { o with acked := if o.acked < fin then fin else o.acked }) ?_ ?_; (· clear f3 f4; simp [assoc_v, side_v, *]; done); simp [assoc_v, side_v])
        | (refine Ends_ite (fun q => ?_) (fun q => ?_))
        | (refine Ends.mk [] [] ?_; clear f4 f3; simp [resC, assoc_v] <;> fail)
        | (cases byB <;> refine Ends.mk [] [] ?_ <;> clear f4 f3 <;> simp [resC, assoc_v, Assoc.with] <;> fail))
end
end Go.Proofs.YtjkbbdmkgealfaaGreatDoor
