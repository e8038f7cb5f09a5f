/-
  Wrong associations, chunks and packets drawn.
  Packets for an association, drawn.
  Comparing lists, sides and associations; packets of a side.
  What the laws of steps have in common.
  Monitors of the program: valid ones, and what is found in them.
-/
import Derived.Test.YtpcfbgeabehmbaaGreatQ29
import Derived.Test.YtpcfbgeabehmbaaGreatQ26
import Derived.Test.YtpcfbgeabehmbaaGreatQ17
import Derived.Test.YtpcfbgeabehmbaaGreatQ24
namespace Go.Proofs.YtpcfbgeabehmbaaGreat
set_option linter.all false

section
set_option maxRecDepth 200000
set_option maxHeartbeats 16000000
attribute [-simp] List.getD_eq_getElem?_getD

section
variable {st : St} {p : Nat} {src : List UInt8} {a : Int} {d : AD} {rs : List AOp} {k : List It} {Q : AE → St → Prop}
theorem goSide (hb : lookB st.box p = some [bsl src, .int .i64 a]) (ha : 0 ≤ a ∧ a < 4800000)
    (h : ∀ (s : Side) (b : Int), s.dr → (a ≤ b ∧ b ≤ a + 1000) → go Tryz.prog (.ops rs :: k) Q .normal (Delta.apply { val := s.v, nb := [(p, [.sl none 1 (src.map byteV), .int .i64 b])] } st d)) : goCall Tryz.prog fn_spec_l92Side [.ptr p 0] d rs k Q st := by
  obtain ⟨_, _, ⟨m, b, hm, hb2⟩, f⟩ := l92Side_ok src a (by omega)
  refine goCall_gen [] [(1000, p)] [] [] none f (by simp [bsl, hb, side_v]) ?_
  have := h m b hm hb2
  simpa [bsl, side_v] using this
end

theorem l92Wrong_ok (src : List UInt8) (a : Int) (h : 0 ≤ a ∧ a < 4700000) : ∃ R bo, AsR src a 2000 R bo ∧ Fn Tryz.prog fn_spec_l92Wrong [.ptr 1000 0] [[bsl src, .int .i64 a]] R bo := by
  refine Fx.of_go ln_spec_l92Wrong rfl ?_
  simp [ac_spec_l92Wrong, bsl]
  refine goAssoc rfl (by omega) fun x b hx hb => ?_
  have c1 := l31Copy_ok x (by have := hx.a.bd.2; omega) (by have := hx.b.bd.2; omega)
  simp only [assoc_v, own_c] at c1
  simp [assoc_v]
  refine goCall_eq c1 (by simp) ?_
  simp
  refine goPick (n := 12) rfl (by omega) (by omega) fun r1 h1 => ?_
  simp
  refine goTest_dec (fun z0 => ?_) (fun z0 => ?_)
  · simp [z0]
    refine goPick (n := 10) rfl (by omega) (by omega) fun r2 h2 => ?_
    simp
    exact ⟨by omega, _, _, .mk { x with state := r2 - 1 } (b + 1 + 1) ⟨hx.a, hx.b⟩ (by omega), Ends.mk [] [(1000, 1000)] (by simp [bsl, assoc_v])⟩
  simp [z0]
  refine goTest_dec (fun z1 => ?_) (fun z1 => ?_)
  · simp [z1]
    refine goSide rfl (by omega) fun s b2 hs hb2 => ?_
    simp [side_v]
    exact ⟨_, _, .mk { x with a := s } b2 ⟨hs, hx.b⟩ (by omega), Ends.mk [] [(1000, 1000)] (by simp [bsl, assoc_v])⟩
  simp [z1]
  refine goTest_dec (fun z2 => ?_) (fun z2 => ?_)
  · simp [z2]
    refine goSide rfl (by omega) fun s b2 hs hb2 => ?_
    simp [side_v]
    exact ⟨_, _, .mk { x with b := s } b2 ⟨hx.a, hs⟩ (by omega), Ends.mk [] [(1000, 1000)] (by simp [bsl, assoc_v])⟩
  simp [z2]
  refine goTest_dec (fun z3 => ?_) (fun z3 => ?_)
  · simp [z3]
    exact ⟨_, _, .mk { x with byB := !x.byB } (b + 1) ⟨hx.a, hx.b⟩ (by omega), Ends.mk [] [(1000, 1000)] (by simp [bsl, assoc_v])⟩
  simp [z3]
  refine goTest_dec (fun z4 => ?_) (fun z4 => ?_)
  · simp [z4]
    refine goWord rfl (by omega) fun n1 b1 hn1 hb1 => ?_
    simp
    exact ⟨_, _, .mk { x with src := n1 } b1 ⟨hx.a, hx.b⟩ (by omega), Ends.mk [] [(1000, 1000)] (by simp [bsl, assoc_v])⟩
  simp [z4]
  exact ⟨_, _, .mk x (b + 1) hx (by omega), Ends.mk [] [(1000, 1000)] (by simp [bsl, assoc_v])⟩

/-- A chunk that was drawn. -/
inductive CnR (src : List UInt8) (a k : Int) : V → List (List V) → Prop
  | mk (c : Chunk) (b : Int) (hb : a ≤ b ∧ b ≤ a + k) : CnR src a k c.v [[bsl src, .int .i64 b]]

theorem tmod_rng {n : Int} (h : 0 ≤ n) : 0 ≤ n.tmod 65536 ∧ n.tmod 65536 < 65536 := by
  rw [Int.tmod_eq_emod_of_nonneg h]; omega

theorem l92Body_ok (src : List UInt8) (a : Int) (x : Assoc) (byB : Bool) (h : 0 ≤ a ∧ a < 4800000) (hx : x.dr) : ∃ R bo, CnR src a 40 R bo ∧ Fn Tryz.prog fn_spec_l92Body [.ptr 1000 0, x.v, .bool byB] [[bsl src, .int .i64 a]] R bo := by
  refine Fx.of_go ln_spec_l92Body rfl ?_
  have f1 := l31Side_ok x byB
  have hs : (x.side byB).dr := by cases byB; exact hx.a; exact hx.b
  have ho : (x.other byB).dr := by cases byB; exact hx.b; exact hx.a
  generalize x.side byB = s at *
  generalize x.other byB = o at *
  have hsf := hs.bd.1
  have hof := ho.bd.1
  have hol := ho.bd.2
  simp only [assoc_v, side_v] at f1
  simp [ac_spec_l92Body, bsl, assoc_v]
  refine goCall_eq f1 (by simp) ?_
  simp
  refine goPick (n := 8) rfl (by omega) (by omega) fun r1 h1 => ?_
  have hr : r1 = 0 ∨ r1 = 1 ∨ r1 = 2 ∨ r1 = 3 ∨ r1 = 4 ∨ r1 = 5 ∨ r1 = 6 ∨ r1 = 7 := by omega
  simp
  have hmx : 0 ≤ (if o.first < 0 then 0 else o.first) := by split <;> omega
  have hms : 0 ≤ (if s.first < 0 then 0 else s.first) := by split <;> omega
  obtain ⟨m1, hm1⟩ : ∃ m1, (if o.first < 0 then 0 else o.first) = m1 := ⟨_, rfl⟩
  obtain ⟨m2, hm2⟩ : ∃ m2, (if s.first < 0 then 0 else s.first) = m2 := ⟨_, rfl⟩
  rw [hm1] at hmx
  rw [hm2] at hms
  rcases hr with rfl | rfl | rfl | rfl | rfl | rfl | rfl | rfl
  iterate 3
    · simp
      obtain ⟨_, _, ⟨d, b, hb⟩, f2⟩ := l92New_ok src (a + 1) s (by omega) hs
      have w1 := spec_DataPut_ok d
      rw [opt_get] at w1
      simp only [side_v, pt_v, chunk_v] at f2 w1
      refine goCall_gen [] [(1000, 1000)] [] [] none f2 (by simp [bsl]) ?_
      simp
      refine goCall_eq w1 (by simp) ?_
      simp
      exact ⟨_, _, .mk ((putPart d).getD zChunk) b (by omega), Ends.mk [] [(1000, 1000)] (by simp [bsl, chunk_v])⟩
  iterate 2
    · simp
      have ht := tmod_rng hmx
      obtain ⟨r2, h2, f2⟩ := pickI src (a + 1) (o.sent.length + 2) (by omega) (by omega)
      have g1 := l3Add_ok (m1.tmod 65536) ((r2 : Int) - 1) (by omega) (by omega) (by omega)
      refine ⟨by omega, ?_⟩
      refine goDCall_gen [] [(1000, 1000)] [] [] none f2 (by simp [bsl]) (by simp [bsl]) ?_
      simp [bsl]
      refine ⟨by omega, ?_⟩
      rw [hm1]
      refine goDCall_eq g1 (by simp) (by simp) ?_
      simp
      refine goPick (n := 6) rfl (by omega) (by omega) fun r3 h3 => ?_
      generalize addS (m1.tmod 65536) ((r2 : Int) - 1) = v at *
      simp
      refine goTest_dec (fun z => ?_) (fun z => ?_)
      · have w1 := spec_SackPut_ok ⟨v, [(2, 2)]⟩ (by simp)
        rw [opt_get] at w1
        simp only [sk_v, chunk_v] at w1
        simp
        refine ⟨by unfold roomOk; omega, ?_⟩
        refine goCall_gen [] [] [] [832] none w1 (by simp [gV]) ?_
        simp
        exact ⟨_, _, .mk ((putSack ⟨v, [(2, 2)]⟩).getD zChunk) (a + 1 + 1 + 1) (by omega), Ends.mk [] [(1000, 1000)] (by simp [bsl, chunk_v])⟩
      · have w1 := spec_SackPut_ok ⟨v, []⟩ (by simp)
        rw [opt_get] at w1
        simp only [sk_v, chunk_v] at w1
        simp
        refine goCall_gen [] [] [] [832] none w1 (by simp) ?_
        simp
        exact ⟨_, _, .mk ((putSack ⟨v, []⟩).getD zChunk) (a + 1 + 1 + 1) (by omega), Ends.mk [] [(1000, 1000)] (by simp [bsl, chunk_v])⟩
  · simp
    have w1 := spec_InitPut_ok ⟨if s.tag < 1 then 1 else s.tag, 5, if s.streams < 1 then 1 else s.streams, m2.tmod 65536⟩ byB
    rw [opt_get] at w1
    simp only [hi_v, chunk_v] at w1
    rw [hm2]
    refine goCall_eq w1 (by simp) ?_
    simp
    exact ⟨_, _, .mk ((putHello ⟨if s.tag < 1 then 1 else s.tag, 5, if s.streams < 1 then 1 else s.streams, m2.tmod 65536⟩ byB).getD zChunk) (a + 1) (by omega), Ends.mk [] [(1000, 1000)] (by simp [bsl, chunk_v])⟩
  · simp
    refine goPick (n := 10) rfl (by omega) (by omega) fun r2 h2 => ?_
    have hr : r2 = 0 ∨ r2 = 1 ∨ r2 = 2 ∨ r2 = 3 ∨ r2 = 4 ∨ r2 = 5 ∨ r2 = 6 ∨ r2 = 7 ∨ r2 = 8 ∨ r2 = 9 := by omega
    rcases hr with rfl | rfl | rfl | rfl | rfl | rfl | rfl | rfl | rfl | rfl
    all_goals
      simp
      exact ⟨_, _, .mk ⟨_, 0, []⟩ (a + 1 + 1) (by omega), Ends.mk [] [(1000, 1000)] (by simp [bsl, chunk_v]; rfl)⟩
  · simp
    obtain ⟨j, hj, he⟩ : ∃ j : Nat, j ≤ 7 ∧ (if 7 < (if x.state < 0 then 0 else x.state) then 7 else (if x.state < 0 then 0 else x.state)) = (j : Int) := by
      by_cases q : x.state < 0
      · rw [if_pos q]; exact ⟨0, by omega, rfl⟩
      · rw [if_neg q]
        by_cases q2 : 7 < x.state
        · exact ⟨7, by omega, by rw [if_pos q2]; rfl⟩
        · exact ⟨x.state.toNat, by omega, by rw [if_neg q2]; omega⟩
    rw [he]
    have hr : j = 0 ∨ j = 1 ∨ j = 2 ∨ j = 3 ∨ j = 4 ∨ j = 5 ∨ j = 6 ∨ j = 7 := by omega
    rcases hr with rfl | rfl | rfl | rfl | rfl | rfl | rfl | rfl
    all_goals
      simp
      exact ⟨_, _, .mk ⟨_, 0, []⟩ (a + 1) (by omega), Ends.mk [] [(1000, 1000)] (by simp [bsl, chunk_v]; rfl)⟩
end

section
set_option maxRecDepth 200000
set_option maxHeartbeats 16000000
attribute [-simp] List.getD_eq_getElem?_getD

/-- A packet that was drawn. -/
inductive PqR (src : List UInt8) (a k : Int) : V → List (List V) → Prop
  | mk (p : Packet) (b : Int) (h : p.chunks.length ≤ 9) (hb : a ≤ b ∧ b ≤ a + k) : PqR src a k p.v [[bsl src, .int .i64 b]]

theorem l92Packet_ok (src : List UInt8) (a : Int) (x : Assoc) (h : 0 ≤ a ∧ a < 4700000) (hx : x.dr) : ∃ R bo, PqR src a 500 R bo ∧ Fn Tryz.prog fn_spec_l92Packet [.ptr 1000 0, x.v] [[bsl src, .int .i64 a]] R bo := by
  refine Fx.of_go ln_spec_l92Packet rfl ?_
  simp [ac_spec_l92Packet, bsl, assoc_v]
  refine goPick (n := 2) rfl (by omega) (by omega) fun r1 h1 => ?_
  simp
  obtain ⟨_, _, ⟨c, b, hb⟩, f1⟩ := l92Body_ok src (a + 1) x (decide (r1 = 0)) (by omega) hx
  cases d1 : decide (r1 = 0)
  all_goals
    rw [d1] at f1
    simp only [assoc_v, chunk_v] at f1
    refine goDCall_gen [] [(1000, 1000)] [] [] none f1 (by simp [bsl]) (by simp [bsl]) ?_
    simp [bsl]
    refine goTest_dec (fun q => ?_) (fun q => ?_)
    all_goals
      simp
      refine goPick (n := 10) rfl (by omega) (by omega) fun r2 h2 => ?_
      simp
      refine goTest_dec (fun z0 => ?_) (fun z0 => ?_)
      · simp [z0]
        obtain ⟨_, _, ⟨c2, b2, hb2⟩, f2⟩ := l92Body_ok src (b + 1) x (decide (r1 = 0)) (by omega) hx
        rw [d1] at f2
        simp only [assoc_v, chunk_v] at f2
        refine goDCall_gen [] [(1000, 1000)] [] [] none f2 (by simp [bsl]) (by simp [bsl]) ?_
        simp [bsl]
        refine ⟨by unfold roomOk; omega, ?_⟩
        exact ⟨_, _, .mk ⟨_, _, _, [c, c2]⟩ b2 (by simp) (by omega), Ends.mk [] [(1000, 1000)] (by simp [bsl, packet_v, chunk_v]; exact ⟨rfl, rfl, rfl⟩)⟩
      simp [z0]
      refine goTest_dec (fun z1 => ?_) (fun z1 => ?_)
      · simp [z1]
        refine goPick (n := 200) rfl (by omega) (by omega) fun r3 h3 => ?_
        simp
        exact ⟨_, _, .mk ⟨_, _, _, [c]⟩ (b + 1 + 1) (by simp) (by omega), Ends.mk [] [(1000, 1000)] (by simp [bsl, packet_v, chunk_v]; exact ⟨rfl, rfl, rfl⟩)⟩
      simp [z1]
      refine goTest_dec (fun z2 => ?_) (fun z2 => ?_)
      · simp [z2]
        obtain ⟨_, _, ⟨p, b2, hp, _, hb2⟩, f2⟩ := l91Packet_ok src (b + 1) (by omega)
        simp only [packet_v] at f2
        refine goCall_gen [] [(1000, 1000)] [] [] none f2 (by simp [bsl]) ?_
        simp [bsl]
        exact ⟨_, _, .mk p b2 hp (by omega), Ends.mk [] [(1000, 1000)] (by simp [bsl, packet_v])⟩
      simp [z2]
      exact ⟨_, _, .mk ⟨_, _, _, [c]⟩ (b + 1) (by simp) (by omega), Ends.mk [] [(1000, 1000)] (by simp [bsl, packet_v, chunk_v]; exact ⟨rfl, rfl, rfl⟩)⟩

/-- An association and a packet that were drawn. -/
inductive ApR : V → List (List V) → Prop
  | mk (x : Assoc) (p : Packet) (hx : x.dr) (hp : p.chunks.length ≤ 9) : ApR (.tup [x.v, p.v]) []
end

section
set_option maxRecDepth 200000
set_option maxHeartbeats 4000000
attribute [-simp] List.getD_eq_getElem?_getD

theorem sameParts_ok (a b : List Part) (ha : a.length ≤ 1000000000000) : Fn Tryz.prog fn_laws_sameParts [psl a, psl b] [] (.bool (decide (a = b))) [] := by
  refine Fn.of_go ln_laws_sameParts rfl ?_
  simp [ac_laws_sameParts, psl]
  refine goTest_dec (fun hl => ?_) (fun hl => ?_)
  rotate_left
  · simp [hl]
    exact Ends.mk [] [] (by simp [show a ≠ b from fun e => hl (by rw [e])])
  simp [hl]
  refine go_loop (fun i => { env := [(0, psl a), (1, psl b), (5, .int .i64 (i : Nat))], loc := [], box := [], stat := [] }) (fun i => i ≤ a.length ∧ ∀ k, k < i → nth a k = nth b k) (fun i => a.length - i) 0 ⟨by omega, fun k hk => by omega⟩ (Weak.of [] [] (by simp [psl])) ?_
  rintro i ⟨hi, hp⟩
  simp [psl, hl]
  refine goTest_dec (fun hlt => ?_) (fun hge => ?_)
  · have hlt1 : i < a.length := by omega
    have hlt2 : i < b.length := by omega
    have hne := part_ne (nth a i) (nth b i)
    simp [hlt, hlt1, hlt2, pt_v]
    simp only [hne]
    by_cases h1 : nth a i = nth b i
    · simp [h1]
      exact ⟨by omega, .mk (i + 1) ⟨by omega, nth_all hp h1⟩ (by omega) (Weak.of [] [] (by simp [psl]))⟩
    · simp [h1]
      exact Ends.mk [] [] (by simp [show a ≠ b from fun e => h1 (by rw [e])])
  · obtain rfl : i = a.length := by omega
    simp [hl]
    exact Ends.mk [] [] (by simp [nth_ext hl hp])

theorem side_eq (a b : Side) : decide (a = b) = (decide (a.tag = b.tag) && (decide (a.streams = b.streams) && (decide (a.first = b.first) && (decide (a.acked = b.acked) && decide (a.sent = b.sent))))) := by
  rw [Bool.eq_iff_iff]
  cases a; cases b
  simp
  exact fun _ _ _ => and_comm

theorem sameSide_ok (a b : Side) (ha : a.sent.length ≤ 1000000000000) : Fn Tryz.prog fn_laws_sameSide [a.v, b.v] [] (.bool (decide (a = b))) [] := by
  refine Fn.of_go ln_laws_sameSide rfl ?_
  have f1 := sameParts_ok a.sent b.sent ha
  simp only [psl] at f1
  have e := side_eq a b
  simp [ac_laws_sameSide, side_v]
  repeat' (first
    | (refine goTest_dec (fun q => ?_) (fun q => ?_) <;> simp [q])
    | (refine goCall_eq f1 (by simp) ?_; simp)
    | (refine Ends.mk [] [] ?_; rw [e]; simp [*] <;> fail))

theorem assoc_eq (a b : Assoc) : decide (a = b) = (decide (a.src = b.src) && (decide (a.dst = b.dst) && (decide (a.state = b.state) && ((a.byB == b.byB) && (decide (a.a = b.a) && decide (a.b = b.b)))))) := by
  rw [Bool.eq_iff_iff]
  cases a; cases b
  simp

theorem sameAssoc_ok (a b : Assoc) (ha : a.a.sent.length ≤ 1000000000000) (hb : a.b.sent.length ≤ 1000000000000) : Fn Tryz.prog fn_laws_sameAssoc [a.v, b.v] [] (.bool (decide (a = b))) [] := by
  refine Fn.of_go ln_laws_sameAssoc rfl ?_
  have f1 := sameSide_ok a.a b.a ha
  have f2 := sameSide_ok a.b b.b hb
  simp only [side_v] at f1 f2
  have e := assoc_eq a b
  cases hw1 : a.byB <;> cases hw2 : b.byB
  all_goals
    rw [hw1, hw2] at e
    simp [ac_laws_sameAssoc, assoc_v, hw1, hw2]
    repeat' (first
      | (refine goTest_dec (fun q => ?_) (fun q => ?_) <;> simp [q])
      | (refine goCall_eq f1 (by simp) ?_; simp)
      | (refine goCall_eq f2 (by simp) ?_; simp)
      | (refine Ends.mk [] [] ?_; rw [e]; simp [*] <;> fail))

end

section
set_option maxRecDepth 200000
set_option maxHeartbeats 8000000
attribute [-simp] List.getD_eq_getElem?_getD

theorem sameAssoc_self (x : Assoc) (h : x.bd) : Fn Tryz.prog fn_laws_sameAssoc [x.v, x.v] [] (.bool true) [] := by
  have := sameAssoc_ok x x (by have := h.1.2; omega) (by have := h.2.2; omega)
  simpa using this
end

section
set_option maxRecDepth 200000
set_option maxHeartbeats 8000000
attribute [-simp] List.getD_eq_getElem?_getD

theorem impl_MonitorValid_ok (m : Monitor) (hm : m.bd) : Fn Tryz.prog fn_impl_MonitorValid [m.v] [] (.bool m.ok) [] := by
  refine Fn.of_go ln_impl_MonitorValid rfl ?_
  have hl := hm.len
  have hf := hm.found
  have hr := hm.recs
  have hmo : m.ok = (allTo (listAt m.list) m.list.length && (fsOk m.records m.found && (inB m.records 0 60 && decide (m.list.length ≤ 3)))) := by unfold Monitor.ok; simp only [Bool.and_assoc]
  have no : ¬ (0 ≤ m.records ∧ m.records ≤ 60 ∧ m.list.length ≤ 3) → m.ok = false := by
    intro h
    rw [hmo]
    simp [inB]
    intros; omega
  simp [ac_impl_MonitorValid, mon_v]
  cases q1 : decide (m.records < 0)
  rotate_left
  · simp; exact Ends.mk [] [] (by simp [no (by have := of_decide_eq_true q1; omega)])
  simp
  cases q2 : decide (60 < m.records)
  rotate_left
  · simp; exact Ends.mk [] [] (by simp [no (by have := of_decide_eq_true q2; omega)])
  simp
  cases q3 : decide (3 < m.list.length)
  rotate_left
  · simp; exact Ends.mk [] [] (by simp [no (by have := of_decide_eq_true q3; omega)])
  simp
  have q1 := of_decide_eq_false q1
  have q2 := of_decide_eq_false q2
  have q3 := of_decide_eq_false q3
  refine go_loop (fun i : Nat => { env := [(1, .ptr 1 0), (22, .sl none 14 (m.list.map Assoc.v)), (23, .int .i64 (m.list.length : Nat)), (24, .int .i64 (i : Nat))], loc := [], box := [(1, m.cells)], stat := [] }) (fun i => i ≤ m.list.length ∧ allTo (listAt m.list) i = true) (fun i => m.list.length - i) 0 ⟨by omega, rfl⟩ (Weak.of [] [(1, 1)] (by simp [Monitor.cells, fsl])) ?_
  rintro i ⟨hi, hp⟩
  simp [Monitor.cells, fsl]
  refine goTest_dec (fun hlt => ?_) (fun hge => ?_)
  · have hbad := bad_list hlt
    have f1 := impl_AssocValid_ok (nth m.list i) (hm.each _ (nth_mem hlt))
    simp only [assoc_v] at f1
    have hla : listAt m.list i = ((nth m.list i).ok && decide ((nth m.list i).state ≠ 0) && allTo (fun k => !meet (nth m.list k).ports (nth m.list i).ports) i) := rfl
    simp [hlt, assoc_v]
    refine goCall_eq f1 (by simp) ?_
    cases q4 : (nth m.list i).ok
    · simp; exact Ends.mk [] [] (by simp [hbad (by simp [hla, q4])])
    simp
    refine goTest_dec (fun q5 => ?_) (fun q5 => ?_)
    · simp; exact Ends.mk [] [] (by simp [hbad (by simp [hla, q5])])
    simp
    obtain ⟨tk, htk⟩ : ∃ tk, tk = m.list.take i := ⟨_, rfl⟩
    have htl : tk.length = i := by rw [htk]; simp; omega
    have htn : ∀ k, k < i → nth tk k = nth m.list k := by
      intro k hk
      rw [nth_eq (by omega), nth_eq (by omega)]
      simp [htk]
    have htm : List.take i (m.list.map Assoc.v) = tk.map Assoc.v := by rw [htk, List.map_take]
    refine ⟨by omega, ?_⟩
    refine go_loop (fun k : Nat => { env := [(1, .ptr 1 0), (4, .ptr 4 0), (22, .sl none 14 (m.list.map Assoc.v)), (23, .int .i64 (m.list.length : Nat)), (24, .int .i64 (i : Nat)), (40, .sl none 14 (tk.map Assoc.v)), (41, .int .i64 (i : Nat)), (42, .int .i64 (k : Nat))], loc := [], box := [(1, m.cells), (4, (nth m.list i).cells)], stat := [] }) (fun k => k ≤ i ∧ allTo (fun k => !meet (nth m.list k).ports (nth m.list i).ports) k = true) (fun k => i - k) 0 ⟨by omega, rfl⟩ (Weak.of [] [(1, 1), (4, 4)] (by simp [Monitor.cells, fsl, Assoc.cells, Side.cells, psl, htm]; omega)) ?_
    rintro k ⟨hk, hpk⟩
    simp [Monitor.cells, fsl, Assoc.cells, Side.cells, psl]
    refine goTest_dec (fun hkl => ?_) (fun hkg => ?_)
    · have hkk : k < m.list.length := by omega
      have f2 := samePorts_ok (nth m.list k) (nth m.list i).src (nth m.list i).dst
      simp only [assoc_v] at f2
      have hpp : (nth m.list i).ports = ((nth m.list i).src, (nth m.list i).dst) := rfl
      simp [htl, hkl, htn k hkl, assoc_v]
      refine goCall_eq f2 (by simp) ?_
      simp
      refine goTest_bool (fun q6 => ?_) (fun q6 => ?_)
      · simp; exact Ends.mk [] [] (by simp [hbad (by rw [hla, allTo_false hkl (by simp [hpp, q6])]; simp)])
      · simp
        exact ⟨by omega, Again.mk (k + 1) ⟨hkl, allTo_succ hpk (by simp [hpp, q6])⟩ (by omega) (Weak.of [] [(1, 1), (4, 4)] (by simp [Monitor.cells, fsl, Assoc.cells, Side.cells, psl]))⟩
    · obtain rfl : k = i := by omega
      simp
      exact ⟨by omega, Again.mk (k + 1) ⟨hlt, allTo_succ hp (by rw [hla, q4, hpk]; simp [q5])⟩ (by omega) (Weak.of [] [(1, 1)] (by simp [Monitor.cells, fsl]))⟩
  · obtain rfl : i = m.list.length := by omega
    have f3 := foundOk_ok m.found m.records (by omega)
    simp only [fsl] at f3
    have e : m.ok = fsOk m.records m.found := by rw [hmo, hp]; simp [inB]; intros; omega
    rw [e]
    simp
    refine goCall_eq f3 (by simp) ?_
    simp
    exact Ends.mk [] [] (by simp)

/-- Where an association is, and whether the second port is that of side A. -/
def whereS (m : Monitor) (a b : Int) : Int × Bool :=
  if m.ok then (match findM m.list a b with | none => (-1, false) | some k => ((k : Int), decide ((nth m.list k).src = b))) else (-1, false)

theorem impl_MonitorFind_ok (m : Monitor) (a b : Int) (hm : m.bd) : Fn Tryz.prog fn_impl_MonitorFind [m.v, .int .i64 a, .int .i64 b] [] (.tup [.int .i64 (whereS m a b).1, .bool (whereS m a b).2]) [] := by
  refine Fn.of_go ln_impl_MonitorFind rfl ?_
  have f1 := impl_MonitorValid_ok m hm
  have hw : whereS m a b = if m.ok then (match findM m.list a b with | none => (-1, false) | some k => ((k : Int), decide ((nth m.list k).src = b))) else (-1, false) := rfl
  have hl := hm.len
  simp only [mon_v] at f1
  simp [ac_impl_MonitorFind, mon_v]
  refine goCall_eq f1 (by simp) ?_
  cases q1 : m.ok
  · rw [hw, q1]
    simp
    exact Ends.mk [] [] (by simp)
  rw [q1, if_pos rfl] at hw
  simp
  refine go_loop (fun i : Nat => { env := [(1, .int .i64 a), (2, .int .i64 b), (14, .sl none 14 (m.list.map Assoc.v)), (15, .int .i64 (m.list.length : Nat)), (16, .int .i64 (i : Nat))], loc := [], box := [], stat := [] }) (fun i => i ≤ m.list.length ∧ ∀ j, j < i → meet (nth m.list j).ports (a, b) = false) (fun i => m.list.length - i) 0 ⟨by omega, fun j hj => by omega⟩ (Weak.of [] [] (by simp)) ?_
  rintro i ⟨hi, hno⟩
  simp
  refine goTest_dec (fun hlt => ?_) (fun hge => ?_)
  · have f2 := samePorts_ok (nth m.list i) a b
    simp only [assoc_v] at f2
    simp [hlt, assoc_v]
    refine goCall_eq f2 (by simp) ?_
    simp
    refine goTest_bool (fun q => ?_) (fun q => ?_)
    · rw [findM_hit hlt q hno] at hw
      rw [hw]
      simp
      exact Ends.mk [] [] (by simp)
    · simp
      refine ⟨by omega, Again.mk (i + 1) ⟨hlt, fun j hj => ?_⟩ (by omega) (Weak.of [] [] (by simp))⟩
      rcases Nat.lt_succ_iff_lt_or_eq.1 hj with h | rfl
      · exact hno j h
      · exact q
  · obtain rfl : i = m.list.length := by omega
    rw [findM_miss hno] at hw
    rw [hw]
    simp
    exact Ends.mk [] [] (by simp)

/-! ## Comparing monitors -/

def asl (l : List Assoc) : V := .sl none 14 (l.map Assoc.v)

theorem sameAssocs_ok (a b : List Assoc) (ha : a.length ≤ 1000000) (h1 : ∀ x ∈ a, x.bd) (h2 : ∀ x ∈ b, x.bd) : Fn Tryz.prog fn_laws_sameAssocs [asl a, asl b] [] (.bool (decide (a = b))) [] := by
  refine Fn.of_go ln_laws_sameAssocs rfl ?_
  simp [ac_laws_sameAssocs, asl]
  refine goTest_dec (fun hl => ?_) (fun hl => ?_)
  rotate_left
  · simp [hl]
    exact Ends.mk [] [] (by simp [show a ≠ b from fun e => hl (by rw [e])])
  simp [hl]
  refine go_loop (fun i => { env := [(0, asl a), (1, asl b), (5, .int .i64 (i : Nat))], loc := [], box := [], stat := [] }) (fun i => i ≤ a.length ∧ ∀ k, k < i → nth a k = nth b k) (fun i => a.length - i) 0 ⟨by omega, fun k hk => by omega⟩ (Weak.of [] [] (by simp [asl])) ?_
  rintro i ⟨hi, hp⟩
  simp [asl, hl]
  refine goTest_dec (fun hlt => ?_) (fun hge => ?_)
  · have hlt1 : i < a.length := by omega
    have hlt2 : i < b.length := by omega
    have b1 := h1 _ (nth_mem hlt1)
    have b2 := h2 _ (nth_mem hlt2)
    have f1 := sameAssoc_ok (nth a i) (nth b i) (by have := b1.1.2; omega) (by have := b1.2.2; omega)
    simp only [assoc_v] at f1
    simp [hlt, hlt1, hlt2, assoc_v]
    refine goCall_eq f1 (by simp) ?_
    by_cases q : nth a i = nth b i
    · simp [q]
      exact ⟨by omega, .mk (i + 1) ⟨by omega, nth_all hp q⟩ (by omega) (Weak.of [] [] (by simp [asl]))⟩
    · simp [q]
      exact Ends.mk [] [] (by simp [show a ≠ b from fun e => q (by rw [e])])
  · obtain rfl : i = a.length := by omega
    simp [hl]
    exact Ends.mk [] [] (by simp [nth_ext hl hp])

theorem monitor_eq (a b : Monitor) : decide (a = b) = (decide (a.records = b.records) && (decide (a.list = b.list) && decide (a.found = b.found))) := by
  rw [Bool.eq_iff_iff]
  cases a; cases b
  simp

theorem sameMonitor_ok (a b : Monitor) (ha : a.bd) (hb : b.bd) : Fn Tryz.prog fn_laws_sameMonitor [a.v, b.v] [] (.bool (decide (a = b))) [] := by
  refine Fn.of_go ln_laws_sameMonitor rfl ?_
  have f1 := sameAssocs_ok a.list b.list (by have := ha.len; omega) ha.each hb.each
  have f2 := sameFound_ok a.found b.found (by have := ha.found; omega)
  simp only [asl, fsl] at f1 f2
  have e := monitor_eq a b
  simp [ac_laws_sameMonitor, mon_v]
  cases q1 : decide (a.records = b.records)
  · rw [q1] at e
    rw [e]
    simp
    exact Ends.mk [] [] (by simp)
  rw [q1] at e
  simp
  refine goCall_eq f1 (by simp) ?_
  cases q2 : decide (a.list = b.list)
  · rw [q2] at e
    rw [e]
    simp
    exact Ends.mk [] [] (by simp)
  rw [q2] at e
  rw [e]
  simp
  refine goCall_eq f2 (by simp) ?_
  simp
  exact Ends.mk [] [] (by simp)
end

end Go.Proofs.YtpcfbgeabehmbaaGreat
