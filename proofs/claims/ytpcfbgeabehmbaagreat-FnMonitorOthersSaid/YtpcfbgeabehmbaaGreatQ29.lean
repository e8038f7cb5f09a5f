/-
  Sides drawn; wrong associations.
  Parts and chunks that a side may send next, drawn.
-/
import Derived.Test.YtpcfbgeabehmbaaGreatQ28
namespace Go.Proofs.YtpcfbgeabehmbaaGreat
set_option linter.all false

section
set_option maxRecDepth 200000
set_option maxHeartbeats 16000000
attribute [-simp] List.getD_eq_getElem?_getD

section
variable {st : St} {p : Nat} {src : List UInt8} {a : Int} {d : AD} {rs : List AOp} {k : List It} {Q : AE → St → Prop}
theorem goAssoc (hb : lookB st.box p = some [bsl src, .int .i64 a]) (ha : 0 ≤ a ∧ a < 4900000)
    (h : ∀ (x : Assoc) (b : Int), x.dr → (a ≤ b ∧ b ≤ a + 700) → go Tryz.prog (.ops rs :: k) Q .normal (Delta.apply { val := x.v, nb := [(p, [.sl none 1 (src.map byteV), .int .i64 b])] } st d)) : goCall Tryz.prog fn_spec_l92Assoc [.ptr p 0] d rs k Q st := by
  obtain ⟨_, _, ⟨m, b, hm, hb2⟩, f⟩ := l92Assoc_ok src a (by omega)
  refine goCall_gen [] [(1000, p)] [] [] none f (by simp [bsl, hb, assoc_v]) ?_
  have := h m b hm hb2
  simpa [bsl, assoc_v] using this
end

theorem setEl_part {l : List Part} {j : Nat} {y : Part} (h : j < l.length) : setEl j 0 [.int .i64 y.tsn, .int .i64 y.stream, .int .i64 y.ssn, .bool y.first, .bool y.last, .bool y.loose, .str y.text] (l.map Part.v) = (l.set j y).map Part.v := by
  unfold setEl
  rw [getD_map h, List.map_set]
  simp [pt_v, wrEl, setCells]

/-- A side that was drawn. -/
inductive SdR (src : List UInt8) (a k : Int) : V → List (List V) → Prop
  | mk (s : Side) (b : Int) (h : s.dr) (hb : a ≤ b ∧ b ≤ a + k) : SdR src a k s.v [[bsl src, .int .i64 b]]

theorem l92Side_ok (src : List UInt8) (a : Int) (h : 0 ≤ a ∧ a < 4800000) : ∃ R bo, SdR src a 1000 R bo ∧ Fn Tryz.prog fn_spec_l92Side [.ptr 1000 0] [[bsl src, .int .i64 a]] R bo := by
  refine Fx.of_go ln_spec_l92Side rfl ?_
  simp [ac_spec_l92Side, bsl]
  refine goAssoc rfl (by omega) fun x b hx hb => ?_
  simp [assoc_v]
  refine goPick (n := 3) rfl (by omega) (by omega) fun r1 h1 => ?_
  simp
  refine goTest_dec (fun q1 => ?_) (fun q1 => ?_)
  · simp
    refine goTalk rfl (by omega) fun t b2 ht hb2 => ?_
    have f1 := spec_TalkRecords_ok t 0 ht (by omega)
    obtain ⟨hl, htx⟩ := records_small t 0
    generalize recordsT t 0 = L at *
    have f2 := spec_MonitorRun_ok L (by omega) (fun r hr => by have := htx r hr; omega)
    have hm := run_sm L
    generalize runS L = m at *
    simp only [talk_v, rsl, mon_v] at f1 f2
    simp [talk_v]
    refine goCall_eq f1 (by simp) ?_
    simp
    refine goCall_eq f2 (by simp) ?_
    simp
    refine goTest_dec (fun q2 => ?_) (fun q2 => ?_)
    · have h0 : 0 < m.list.length := by omega
      have hx2 := Assoc.ok_dr (hm.each _ (nth_mem h0))
      simp [h0, assoc_v]
      clear f1 f2 hm htx hl hx
      generalize nth m.list 0 = y at *
      have hy := hx2
      generalize hE : b2 = e at *
      have he : a ≤ e ∧ e ≤ a + 801 := by omega
      clear hE q1 q2 h0 hb hb2
      have c1 := l31Copy_ok y (by have := hy.a.bd.2; omega) (by have := hy.b.bd.2; omega)
      simp only [assoc_v, own_c] at c1
      refine goCall_eq c1 (by simp) ?_
      simp
      refine goPick (n := 2) rfl (by omega) (by omega) fun r2 h2 => ?_
      simp
      cases d2 : decide (r2 = 0)
      rotate_left
      · simp
        refine goCall_eq c1 (by simp) ?_
        simp
        have hs := hy.b
        generalize hS : y.b = s at *
        refine goPick (n := 16) rfl (by omega) (by omega) fun r3 h3 => ?_
        simp
        refine goTest_dec (fun z0 => ?_) (fun z0 => ?_)
        · simp [z0]
          refine goPick (n := 3) rfl (by omega) (by omega) fun r4 h4 => ?_
          simp
          exact ⟨_, _, .mk ⟨r4, s.streams, s.first, s.sent, s.acked⟩ (e + 1 + 1 + 1) ⟨hs.bd, hs.str⟩ (by omega), Ends.mk [] [(1000, 1000)] (by simp [bsl, side_v])⟩
        simp [z0]
        refine goTest_dec (fun z1 => ?_) (fun z1 => ?_)
        · simp [z1]
          refine goPick (n := 14) rfl (by omega) (by omega) fun r4 h4 => ?_
          simp
          exact ⟨by omega, _, _, .mk ⟨s.tag, s.streams, s.first, s.sent, r4 - 1⟩ (e + 1 + 1 + 1) ⟨hs.bd, hs.str⟩ (by omega), Ends.mk [] [(1000, 1000)] (by simp [bsl, side_v])⟩
        simp [z1]
        refine goTest_dec (fun z2 => ?_) (fun z2 => ?_)
        · simp [z2]
          refine goWord rfl (by omega) fun n1 b1 hn1 hb1 => ?_
          simp
          exact ⟨_, _, .mk ⟨s.tag, s.streams, n1, s.sent, s.acked⟩ b1 ⟨⟨by simp only; omega, hs.bd.2⟩, hs.str⟩ (by omega), Ends.mk [] [(1000, 1000)] (by simp [bsl, side_v])⟩
        simp [z2]
        refine goTest_dec (fun z3 => ?_) (fun z3 => ?_)
        · simp [z3]
          refine goPick (n := 7) rfl (by omega) (by omega) fun r4 h4 => ?_
          simp
          exact ⟨by omega, _, _, .mk ⟨s.tag, r4 - 1, s.first, s.sent, s.acked⟩ (e + 1 + 1 + 1) ⟨hs.bd, by simp only; omega⟩ (by omega), Ends.mk [] [(1000, 1000)] (by simp [bsl, side_v])⟩
        simp [z3]
        refine goTest_dec (fun z4 => ?_) (fun z4 => ?_)
        · simp [z4]
          refine goTest_dec (fun z5 => ?_) (fun z5 => ?_)
          · simp [z5]
            obtain ⟨r4, h4, f4⟩ := pickI src (e + 1 + 1) s.sent.length (by omega) (by have := hs.bd.2; omega)
            have h4L : r4 < s.sent.length := by omega
            refine goDCall_gen [] [(1000, 1000)] [] [] none f4 (by simp [bsl]) (by simp [bsl]) ?_
            simp [bsl]
            obtain ⟨_, _, ⟨u1, u2, u3, u4, u5, u6, u7, b7, h7, hb7⟩, f7⟩ := l91Part_ok src (e + 1 + 1 + 1) (by omega)
            refine goDCall_gen [] [(1000, 1000)] [] [] none f7 (by simp [bsl]) (by simp [bsl]) ?_
            have hset := setEl_part (y := ⟨u1, u2, u3, u4, u5, u6, u7⟩) h4L
            simp [bsl, h4L, hset]
            exact ⟨_, _, .mk ⟨s.tag, s.streams, s.first, s.sent.set r4 ⟨u1, u2, u3, u4, u5, u6, u7⟩, s.acked⟩ b7 ⟨⟨hs.bd.1, by simpa using hs.bd.2⟩, hs.str⟩ (by omega), Ends.mk [] [(1000, 1000)] (by simp [bsl, side_v])⟩
          · simp [z5]
            exact ⟨_, _, .mk s (e + 1 + 1) hs (by omega), Ends.mk [] [(1000, 1000)] (by simp [bsl, side_v])⟩
        simp [z4]
        exact ⟨_, _, .mk s (e + 1 + 1) hs (by omega), Ends.mk [] [(1000, 1000)] (by simp [bsl, side_v])⟩
      simp
      refine goTest_dec (fun d3 => ?_) (fun d3 => ?_)
      · simp [d3]
        simp only [d3, List.map_nil] at c1
        refine goCall_eq c1 (by simp) ?_
        simp
        have hs := hy.b
        generalize hS : y.b = s at *
        refine goPick (n := 16) rfl (by omega) (by omega) fun r3 h3 => ?_
        simp
        refine goTest_dec (fun z0 => ?_) (fun z0 => ?_)
        · simp [z0]
          refine goPick (n := 3) rfl (by omega) (by omega) fun r4 h4 => ?_
          simp
          exact ⟨_, _, .mk ⟨r4, s.streams, s.first, s.sent, s.acked⟩ (e + 1 + 1 + 1) ⟨hs.bd, hs.str⟩ (by omega), Ends.mk [] [(1000, 1000)] (by simp [bsl, side_v])⟩
        simp [z0]
        refine goTest_dec (fun z1 => ?_) (fun z1 => ?_)
        · simp [z1]
          refine goPick (n := 14) rfl (by omega) (by omega) fun r4 h4 => ?_
          simp
          exact ⟨by omega, _, _, .mk ⟨s.tag, s.streams, s.first, s.sent, r4 - 1⟩ (e + 1 + 1 + 1) ⟨hs.bd, hs.str⟩ (by omega), Ends.mk [] [(1000, 1000)] (by simp [bsl, side_v])⟩
        simp [z1]
        refine goTest_dec (fun z2 => ?_) (fun z2 => ?_)
        · simp [z2]
          refine goWord rfl (by omega) fun n1 b1 hn1 hb1 => ?_
          simp
          exact ⟨_, _, .mk ⟨s.tag, s.streams, n1, s.sent, s.acked⟩ b1 ⟨⟨by simp only; omega, hs.bd.2⟩, hs.str⟩ (by omega), Ends.mk [] [(1000, 1000)] (by simp [bsl, side_v])⟩
        simp [z2]
        refine goTest_dec (fun z3 => ?_) (fun z3 => ?_)
        · simp [z3]
          refine goPick (n := 7) rfl (by omega) (by omega) fun r4 h4 => ?_
          simp
          exact ⟨by omega, _, _, .mk ⟨s.tag, r4 - 1, s.first, s.sent, s.acked⟩ (e + 1 + 1 + 1) ⟨hs.bd, by simp only; omega⟩ (by omega), Ends.mk [] [(1000, 1000)] (by simp [bsl, side_v])⟩
        simp [z3]
        refine goTest_dec (fun z4 => ?_) (fun z4 => ?_)
        · simp [z4]
          refine goTest_dec (fun z5 => ?_) (fun z5 => ?_)
          · simp [z5]
            obtain ⟨r4, h4, f4⟩ := pickI src (e + 1 + 1) s.sent.length (by omega) (by have := hs.bd.2; omega)
            have h4L : r4 < s.sent.length := by omega
            refine goDCall_gen [] [(1000, 1000)] [] [] none f4 (by simp [bsl]) (by simp [bsl]) ?_
            simp [bsl]
            obtain ⟨_, _, ⟨u1, u2, u3, u4, u5, u6, u7, b7, h7, hb7⟩, f7⟩ := l91Part_ok src (e + 1 + 1 + 1) (by omega)
            refine goDCall_gen [] [(1000, 1000)] [] [] none f7 (by simp [bsl]) (by simp [bsl]) ?_
            have hset := setEl_part (y := ⟨u1, u2, u3, u4, u5, u6, u7⟩) h4L
            simp [bsl, h4L, hset]
            exact ⟨_, _, .mk ⟨s.tag, s.streams, s.first, s.sent.set r4 ⟨u1, u2, u3, u4, u5, u6, u7⟩, s.acked⟩ b7 ⟨⟨hs.bd.1, by simpa using hs.bd.2⟩, hs.str⟩ (by omega), Ends.mk [] [(1000, 1000)] (by simp [bsl, side_v])⟩
          · simp [z5]
            exact ⟨_, _, .mk s (e + 1 + 1) hs (by omega), Ends.mk [] [(1000, 1000)] (by simp [bsl, side_v])⟩
        simp [z4]
        exact ⟨_, _, .mk s (e + 1 + 1) hs (by omega), Ends.mk [] [(1000, 1000)] (by simp [bsl, side_v])⟩
      simp [d3]
      have hs := hy.a
      generalize hS : y.a = s at *
      refine goPick (n := 16) rfl (by omega) (by omega) fun r3 h3 => ?_
      simp
      refine goTest_dec (fun z0 => ?_) (fun z0 => ?_)
      · simp [z0]
        refine goPick (n := 3) rfl (by omega) (by omega) fun r4 h4 => ?_
        simp
        exact ⟨_, _, .mk ⟨r4, s.streams, s.first, s.sent, s.acked⟩ (e + 1 + 1 + 1) ⟨hs.bd, hs.str⟩ (by omega), Ends.mk [] [(1000, 1000)] (by simp [bsl, side_v])⟩
      simp [z0]
      refine goTest_dec (fun z1 => ?_) (fun z1 => ?_)
      · simp [z1]
        refine goPick (n := 14) rfl (by omega) (by omega) fun r4 h4 => ?_
        simp
        exact ⟨by omega, _, _, .mk ⟨s.tag, s.streams, s.first, s.sent, r4 - 1⟩ (e + 1 + 1 + 1) ⟨hs.bd, hs.str⟩ (by omega), Ends.mk [] [(1000, 1000)] (by simp [bsl, side_v])⟩
      simp [z1]
      refine goTest_dec (fun z2 => ?_) (fun z2 => ?_)
      · simp [z2]
        refine goWord rfl (by omega) fun n1 b1 hn1 hb1 => ?_
        simp
        exact ⟨_, _, .mk ⟨s.tag, s.streams, n1, s.sent, s.acked⟩ b1 ⟨⟨by simp only; omega, hs.bd.2⟩, hs.str⟩ (by omega), Ends.mk [] [(1000, 1000)] (by simp [bsl, side_v])⟩
      simp [z2]
      refine goTest_dec (fun z3 => ?_) (fun z3 => ?_)
      · simp [z3]
        refine goPick (n := 7) rfl (by omega) (by omega) fun r4 h4 => ?_
        simp
        exact ⟨by omega, _, _, .mk ⟨s.tag, r4 - 1, s.first, s.sent, s.acked⟩ (e + 1 + 1 + 1) ⟨hs.bd, by simp only; omega⟩ (by omega), Ends.mk [] [(1000, 1000)] (by simp [bsl, side_v])⟩
      simp [z3]
      refine goTest_dec (fun z4 => ?_) (fun z4 => ?_)
      · simp [z4]
        refine goTest_dec (fun z5 => ?_) (fun z5 => ?_)
        · simp [z5]
          obtain ⟨r4, h4, f4⟩ := pickI src (e + 1 + 1) s.sent.length (by omega) (by have := hs.bd.2; omega)
          have h4L : r4 < s.sent.length := by omega
          refine goDCall_gen [] [(1000, 1000)] [] [] none f4 (by simp [bsl]) (by simp [bsl]) ?_
          simp [bsl]
          obtain ⟨_, _, ⟨u1, u2, u3, u4, u5, u6, u7, b7, h7, hb7⟩, f7⟩ := l91Part_ok src (e + 1 + 1 + 1) (by omega)
          refine goDCall_gen [] [(1000, 1000)] [] [] none f7 (by simp [bsl]) (by simp [bsl]) ?_
          have hset := setEl_part (y := ⟨u1, u2, u3, u4, u5, u6, u7⟩) h4L
          simp [bsl, h4L, hset]
          exact ⟨_, _, .mk ⟨s.tag, s.streams, s.first, s.sent.set r4 ⟨u1, u2, u3, u4, u5, u6, u7⟩, s.acked⟩ b7 ⟨⟨hs.bd.1, by simpa using hs.bd.2⟩, hs.str⟩ (by omega), Ends.mk [] [(1000, 1000)] (by simp [bsl, side_v])⟩
        · simp [z5]
          exact ⟨_, _, .mk s (e + 1 + 1) hs (by omega), Ends.mk [] [(1000, 1000)] (by simp [bsl, side_v])⟩
      simp [z4]
      exact ⟨_, _, .mk s (e + 1 + 1) hs (by omega), Ends.mk [] [(1000, 1000)] (by simp [bsl, side_v])⟩
    · simp
      clear f1 f2 hm htx hl
      generalize x = y at *
      have hy := hx
      generalize hE : b2 = e at *
      have he : a ≤ e ∧ e ≤ a + 801 := by omega
      clear hE q1 q2 hb hb2
      have c1 := l31Copy_ok y (by have := hy.a.bd.2; omega) (by have := hy.b.bd.2; omega)
      simp only [assoc_v, own_c] at c1
      refine goCall_eq c1 (by simp) ?_
      simp
      refine goPick (n := 2) rfl (by omega) (by omega) fun r2 h2 => ?_
      simp
      cases d2 : decide (r2 = 0)
      rotate_left
      · simp
        refine goCall_eq c1 (by simp) ?_
        simp
        have hs := hy.b
        generalize hS : y.b = s at *
        refine goPick (n := 16) rfl (by omega) (by omega) fun r3 h3 => ?_
        simp
        refine goTest_dec (fun z0 => ?_) (fun z0 => ?_)
        · simp [z0]
          refine goPick (n := 3) rfl (by omega) (by omega) fun r4 h4 => ?_
          simp
          exact ⟨_, _, .mk ⟨r4, s.streams, s.first, s.sent, s.acked⟩ (e + 1 + 1 + 1) ⟨hs.bd, hs.str⟩ (by omega), Ends.mk [] [(1000, 1000)] (by simp [bsl, side_v])⟩
        simp [z0]
        refine goTest_dec (fun z1 => ?_) (fun z1 => ?_)
        · simp [z1]
          refine goPick (n := 14) rfl (by omega) (by omega) fun r4 h4 => ?_
          simp
          exact ⟨by omega, _, _, .mk ⟨s.tag, s.streams, s.first, s.sent, r4 - 1⟩ (e + 1 + 1 + 1) ⟨hs.bd, hs.str⟩ (by omega), Ends.mk [] [(1000, 1000)] (by simp [bsl, side_v])⟩
        simp [z1]
        refine goTest_dec (fun z2 => ?_) (fun z2 => ?_)
        · simp [z2]
          refine goWord rfl (by omega) fun n1 b1 hn1 hb1 => ?_
          simp
          exact ⟨_, _, .mk ⟨s.tag, s.streams, n1, s.sent, s.acked⟩ b1 ⟨⟨by simp only; omega, hs.bd.2⟩, hs.str⟩ (by omega), Ends.mk [] [(1000, 1000)] (by simp [bsl, side_v])⟩
        simp [z2]
        refine goTest_dec (fun z3 => ?_) (fun z3 => ?_)
        · simp [z3]
          refine goPick (n := 7) rfl (by omega) (by omega) fun r4 h4 => ?_
          simp
          exact ⟨by omega, _, _, .mk ⟨s.tag, r4 - 1, s.first, s.sent, s.acked⟩ (e + 1 + 1 + 1) ⟨hs.bd, by simp only; omega⟩ (by omega), Ends.mk [] [(1000, 1000)] (by simp [bsl, side_v])⟩
        simp [z3]
        refine goTest_dec (fun z4 => ?_) (fun z4 => ?_)
        · simp [z4]
          refine goTest_dec (fun z5 => ?_) (fun z5 => ?_)
          · simp [z5]
            obtain ⟨r4, h4, f4⟩ := pickI src (e + 1 + 1) s.sent.length (by omega) (by have := hs.bd.2; omega)
            have h4L : r4 < s.sent.length := by omega
            refine goDCall_gen [] [(1000, 1000)] [] [] none f4 (by simp [bsl]) (by simp [bsl]) ?_
            simp [bsl]
            obtain ⟨_, _, ⟨u1, u2, u3, u4, u5, u6, u7, b7, h7, hb7⟩, f7⟩ := l91Part_ok src (e + 1 + 1 + 1) (by omega)
            refine goDCall_gen [] [(1000, 1000)] [] [] none f7 (by simp [bsl]) (by simp [bsl]) ?_
            have hset := setEl_part (y := ⟨u1, u2, u3, u4, u5, u6, u7⟩) h4L
            simp [bsl, h4L, hset]
            exact ⟨_, _, .mk ⟨s.tag, s.streams, s.first, s.sent.set r4 ⟨u1, u2, u3, u4, u5, u6, u7⟩, s.acked⟩ b7 ⟨⟨hs.bd.1, by simpa using hs.bd.2⟩, hs.str⟩ (by omega), Ends.mk [] [(1000, 1000)] (by simp [bsl, side_v])⟩
          · simp [z5]
            exact ⟨_, _, .mk s (e + 1 + 1) hs (by omega), Ends.mk [] [(1000, 1000)] (by simp [bsl, side_v])⟩
        simp [z4]
        exact ⟨_, _, .mk s (e + 1 + 1) hs (by omega), Ends.mk [] [(1000, 1000)] (by simp [bsl, side_v])⟩
      simp
      refine goTest_dec (fun d3 => ?_) (fun d3 => ?_)
      · simp [d3]
        simp only [d3, List.map_nil] at c1
        refine goCall_eq c1 (by simp) ?_
        simp
        have hs := hy.b
        generalize hS : y.b = s at *
        refine goPick (n := 16) rfl (by omega) (by omega) fun r3 h3 => ?_
        simp
        refine goTest_dec (fun z0 => ?_) (fun z0 => ?_)
        · simp [z0]
          refine goPick (n := 3) rfl (by omega) (by omega) fun r4 h4 => ?_
          simp
          exact ⟨_, _, .mk ⟨r4, s.streams, s.first, s.sent, s.acked⟩ (e + 1 + 1 + 1) ⟨hs.bd, hs.str⟩ (by omega), Ends.mk [] [(1000, 1000)] (by simp [bsl, side_v])⟩
        simp [z0]
        refine goTest_dec (fun z1 => ?_) (fun z1 => ?_)
        · simp [z1]
          refine goPick (n := 14) rfl (by omega) (by omega) fun r4 h4 => ?_
          simp
          exact ⟨by omega, _, _, .mk ⟨s.tag, s.streams, s.first, s.sent, r4 - 1⟩ (e + 1 + 1 + 1) ⟨hs.bd, hs.str⟩ (by omega), Ends.mk [] [(1000, 1000)] (by simp [bsl, side_v])⟩
        simp [z1]
        refine goTest_dec (fun z2 => ?_) (fun z2 => ?_)
        · simp [z2]
          refine goWord rfl (by omega) fun n1 b1 hn1 hb1 => ?_
          simp
          exact ⟨_, _, .mk ⟨s.tag, s.streams, n1, s.sent, s.acked⟩ b1 ⟨⟨by simp only; omega, hs.bd.2⟩, hs.str⟩ (by omega), Ends.mk [] [(1000, 1000)] (by simp [bsl, side_v])⟩
        simp [z2]
        refine goTest_dec (fun z3 => ?_) (fun z3 => ?_)
        · simp [z3]
          refine goPick (n := 7) rfl (by omega) (by omega) fun r4 h4 => ?_
          simp
          exact ⟨by omega, _, _, .mk ⟨s.tag, r4 - 1, s.first, s.sent, s.acked⟩ (e + 1 + 1 + 1) ⟨hs.bd, by simp only; omega⟩ (by omega), Ends.mk [] [(1000, 1000)] (by simp [bsl, side_v])⟩
        simp [z3]
        refine goTest_dec (fun z4 => ?_) (fun z4 => ?_)
        · simp [z4]
          refine goTest_dec (fun z5 => ?_) (fun z5 => ?_)
          · simp [z5]
            obtain ⟨r4, h4, f4⟩ := pickI src (e + 1 + 1) s.sent.length (by omega) (by have := hs.bd.2; omega)
            have h4L : r4 < s.sent.length := by omega
            refine goDCall_gen [] [(1000, 1000)] [] [] none f4 (by simp [bsl]) (by simp [bsl]) ?_
            simp [bsl]
            obtain ⟨_, _, ⟨u1, u2, u3, u4, u5, u6, u7, b7, h7, hb7⟩, f7⟩ := l91Part_ok src (e + 1 + 1 + 1) (by omega)
            refine goDCall_gen [] [(1000, 1000)] [] [] none f7 (by simp [bsl]) (by simp [bsl]) ?_
            have hset := setEl_part (y := ⟨u1, u2, u3, u4, u5, u6, u7⟩) h4L
            simp [bsl, h4L, hset]
            exact ⟨_, _, .mk ⟨s.tag, s.streams, s.first, s.sent.set r4 ⟨u1, u2, u3, u4, u5, u6, u7⟩, s.acked⟩ b7 ⟨⟨hs.bd.1, by simpa using hs.bd.2⟩, hs.str⟩ (by omega), Ends.mk [] [(1000, 1000)] (by simp [bsl, side_v])⟩
          · simp [z5]
            exact ⟨_, _, .mk s (e + 1 + 1) hs (by omega), Ends.mk [] [(1000, 1000)] (by simp [bsl, side_v])⟩
        simp [z4]
        exact ⟨_, _, .mk s (e + 1 + 1) hs (by omega), Ends.mk [] [(1000, 1000)] (by simp [bsl, side_v])⟩
      simp [d3]
      have hs := hy.a
      generalize hS : y.a = s at *
      refine goPick (n := 16) rfl (by omega) (by omega) fun r3 h3 => ?_
      simp
      refine goTest_dec (fun z0 => ?_) (fun z0 => ?_)
      · simp [z0]
        refine goPick (n := 3) rfl (by omega) (by omega) fun r4 h4 => ?_
        simp
        exact ⟨_, _, .mk ⟨r4, s.streams, s.first, s.sent, s.acked⟩ (e + 1 + 1 + 1) ⟨hs.bd, hs.str⟩ (by omega), Ends.mk [] [(1000, 1000)] (by simp [bsl, side_v])⟩
      simp [z0]
      refine goTest_dec (fun z1 => ?_) (fun z1 => ?_)
      · simp [z1]
        refine goPick (n := 14) rfl (by omega) (by omega) fun r4 h4 => ?_
        simp
        exact ⟨by omega, _, _, .mk ⟨s.tag, s.streams, s.first, s.sent, r4 - 1⟩ (e + 1 + 1 + 1) ⟨hs.bd, hs.str⟩ (by omega), Ends.mk [] [(1000, 1000)] (by simp [bsl, side_v])⟩
      simp [z1]
      refine goTest_dec (fun z2 => ?_) (fun z2 => ?_)
      · simp [z2]
        refine goWord rfl (by omega) fun n1 b1 hn1 hb1 => ?_
        simp
        exact ⟨_, _, .mk ⟨s.tag, s.streams, n1, s.sent, s.acked⟩ b1 ⟨⟨by simp only; omega, hs.bd.2⟩, hs.str⟩ (by omega), Ends.mk [] [(1000, 1000)] (by simp [bsl, side_v])⟩
      simp [z2]
      refine goTest_dec (fun z3 => ?_) (fun z3 => ?_)
      · simp [z3]
        refine goPick (n := 7) rfl (by omega) (by omega) fun r4 h4 => ?_
        simp
        exact ⟨by omega, _, _, .mk ⟨s.tag, r4 - 1, s.first, s.sent, s.acked⟩ (e + 1 + 1 + 1) ⟨hs.bd, by simp only; omega⟩ (by omega), Ends.mk [] [(1000, 1000)] (by simp [bsl, side_v])⟩
      simp [z3]
      refine goTest_dec (fun z4 => ?_) (fun z4 => ?_)
      · simp [z4]
        refine goTest_dec (fun z5 => ?_) (fun z5 => ?_)
        · simp [z5]
          obtain ⟨r4, h4, f4⟩ := pickI src (e + 1 + 1) s.sent.length (by omega) (by have := hs.bd.2; omega)
          have h4L : r4 < s.sent.length := by omega
          refine goDCall_gen [] [(1000, 1000)] [] [] none f4 (by simp [bsl]) (by simp [bsl]) ?_
          simp [bsl]
          obtain ⟨_, _, ⟨u1, u2, u3, u4, u5, u6, u7, b7, h7, hb7⟩, f7⟩ := l91Part_ok src (e + 1 + 1 + 1) (by omega)
          refine goDCall_gen [] [(1000, 1000)] [] [] none f7 (by simp [bsl]) (by simp [bsl]) ?_
          have hset := setEl_part (y := ⟨u1, u2, u3, u4, u5, u6, u7⟩) h4L
          simp [bsl, h4L, hset]
          exact ⟨_, _, .mk ⟨s.tag, s.streams, s.first, s.sent.set r4 ⟨u1, u2, u3, u4, u5, u6, u7⟩, s.acked⟩ b7 ⟨⟨hs.bd.1, by simpa using hs.bd.2⟩, hs.str⟩ (by omega), Ends.mk [] [(1000, 1000)] (by simp [bsl, side_v])⟩
        · simp [z5]
          exact ⟨_, _, .mk s (e + 1 + 1) hs (by omega), Ends.mk [] [(1000, 1000)] (by simp [bsl, side_v])⟩
      simp [z4]
      exact ⟨_, _, .mk s (e + 1 + 1) hs (by omega), Ends.mk [] [(1000, 1000)] (by simp [bsl, side_v])⟩
  · simp
    generalize x = y at *
    have hy := hx
    generalize hE : b + 1 = e at *
    have he : a ≤ e ∧ e ≤ a + 801 := by omega
    clear hE q1 hb
    have c1 := l31Copy_ok y (by have := hy.a.bd.2; omega) (by have := hy.b.bd.2; omega)
    simp only [assoc_v, own_c] at c1
    refine goCall_eq c1 (by simp) ?_
    simp
    refine goPick (n := 2) rfl (by omega) (by omega) fun r2 h2 => ?_
    simp
    cases d2 : decide (r2 = 0)
    rotate_left
    · simp
      refine goCall_eq c1 (by simp) ?_
      simp
      have hs := hy.b
      generalize hS : y.b = s at *
      refine goPick (n := 16) rfl (by omega) (by omega) fun r3 h3 => ?_
      simp
      refine goTest_dec (fun z0 => ?_) (fun z0 => ?_)
      · simp [z0]
        refine goPick (n := 3) rfl (by omega) (by omega) fun r4 h4 => ?_
        simp
        exact ⟨_, _, .mk ⟨r4, s.streams, s.first, s.sent, s.acked⟩ (e + 1 + 1 + 1) ⟨hs.bd, hs.str⟩ (by omega), Ends.mk [] [(1000, 1000)] (by simp [bsl, side_v])⟩
      simp [z0]
      refine goTest_dec (fun z1 => ?_) (fun z1 => ?_)
      · simp [z1]
        refine goPick (n := 14) rfl (by omega) (by omega) fun r4 h4 => ?_
        simp
        exact ⟨by omega, _, _, .mk ⟨s.tag, s.streams, s.first, s.sent, r4 - 1⟩ (e + 1 + 1 + 1) ⟨hs.bd, hs.str⟩ (by omega), Ends.mk [] [(1000, 1000)] (by simp [bsl, side_v])⟩
      simp [z1]
      refine goTest_dec (fun z2 => ?_) (fun z2 => ?_)
      · simp [z2]
        refine goWord rfl (by omega) fun n1 b1 hn1 hb1 => ?_
        simp
        exact ⟨_, _, .mk ⟨s.tag, s.streams, n1, s.sent, s.acked⟩ b1 ⟨⟨by simp only; omega, hs.bd.2⟩, hs.str⟩ (by omega), Ends.mk [] [(1000, 1000)] (by simp [bsl, side_v])⟩
      simp [z2]
      refine goTest_dec (fun z3 => ?_) (fun z3 => ?_)
      · simp [z3]
        refine goPick (n := 7) rfl (by omega) (by omega) fun r4 h4 => ?_
        simp
        exact ⟨by omega, _, _, .mk ⟨s.tag, r4 - 1, s.first, s.sent, s.acked⟩ (e + 1 + 1 + 1) ⟨hs.bd, by simp only; omega⟩ (by omega), Ends.mk [] [(1000, 1000)] (by simp [bsl, side_v])⟩
      simp [z3]
      refine goTest_dec (fun z4 => ?_) (fun z4 => ?_)
      · simp [z4]
        refine goTest_dec (fun z5 => ?_) (fun z5 => ?_)
        · simp [z5]
          obtain ⟨r4, h4, f4⟩ := pickI src (e + 1 + 1) s.sent.length (by omega) (by have := hs.bd.2; omega)
          have h4L : r4 < s.sent.length := by omega
          refine goDCall_gen [] [(1000, 1000)] [] [] none f4 (by simp [bsl]) (by simp [bsl]) ?_
          simp [bsl]
          obtain ⟨_, _, ⟨u1, u2, u3, u4, u5, u6, u7, b7, h7, hb7⟩, f7⟩ := l91Part_ok src (e + 1 + 1 + 1) (by omega)
          refine goDCall_gen [] [(1000, 1000)] [] [] none f7 (by simp [bsl]) (by simp [bsl]) ?_
          have hset := setEl_part (y := ⟨u1, u2, u3, u4, u5, u6, u7⟩) h4L
          simp [bsl, h4L, hset]
          exact ⟨_, _, .mk ⟨s.tag, s.streams, s.first, s.sent.set r4 ⟨u1, u2, u3, u4, u5, u6, u7⟩, s.acked⟩ b7 ⟨⟨hs.bd.1, by simpa using hs.bd.2⟩, hs.str⟩ (by omega), Ends.mk [] [(1000, 1000)] (by simp [bsl, side_v])⟩
        · simp [z5]
          exact ⟨_, _, .mk s (e + 1 + 1) hs (by omega), Ends.mk [] [(1000, 1000)] (by simp [bsl, side_v])⟩
      simp [z4]
      exact ⟨_, _, .mk s (e + 1 + 1) hs (by omega), Ends.mk [] [(1000, 1000)] (by simp [bsl, side_v])⟩
    simp
    refine goTest_dec (fun d3 => ?_) (fun d3 => ?_)
    · simp [d3]
      simp only [d3, List.map_nil] at c1
      refine goCall_eq c1 (by simp) ?_
      simp
      have hs := hy.b
      generalize hS : y.b = s at *
      refine goPick (n := 16) rfl (by omega) (by omega) fun r3 h3 => ?_
      simp
      refine goTest_dec (fun z0 => ?_) (fun z0 => ?_)
      · simp [z0]
        refine goPick (n := 3) rfl (by omega) (by omega) fun r4 h4 => ?_
        simp
        exact ⟨_, _, .mk ⟨r4, s.streams, s.first, s.sent, s.acked⟩ (e + 1 + 1 + 1) ⟨hs.bd, hs.str⟩ (by omega), Ends.mk [] [(1000, 1000)] (by simp [bsl, side_v])⟩
      simp [z0]
      refine goTest_dec (fun z1 => ?_) (fun z1 => ?_)
      · simp [z1]
        refine goPick (n := 14) rfl (by omega) (by omega) fun r4 h4 => ?_
        simp
        exact ⟨by omega, _, _, .mk ⟨s.tag, s.streams, s.first, s.sent, r4 - 1⟩ (e + 1 + 1 + 1) ⟨hs.bd, hs.str⟩ (by omega), Ends.mk [] [(1000, 1000)] (by simp [bsl, side_v])⟩
      simp [z1]
      refine goTest_dec (fun z2 => ?_) (fun z2 => ?_)
      · simp [z2]
        refine goWord rfl (by omega) fun n1 b1 hn1 hb1 => ?_
        simp
        exact ⟨_, _, .mk ⟨s.tag, s.streams, n1, s.sent, s.acked⟩ b1 ⟨⟨by simp only; omega, hs.bd.2⟩, hs.str⟩ (by omega), Ends.mk [] [(1000, 1000)] (by simp [bsl, side_v])⟩
      simp [z2]
      refine goTest_dec (fun z3 => ?_) (fun z3 => ?_)
      · simp [z3]
        refine goPick (n := 7) rfl (by omega) (by omega) fun r4 h4 => ?_
        simp
        exact ⟨by omega, _, _, .mk ⟨s.tag, r4 - 1, s.first, s.sent, s.acked⟩ (e + 1 + 1 + 1) ⟨hs.bd, by simp only; omega⟩ (by omega), Ends.mk [] [(1000, 1000)] (by simp [bsl, side_v])⟩
      simp [z3]
      refine goTest_dec (fun z4 => ?_) (fun z4 => ?_)
      · simp [z4]
        refine goTest_dec (fun z5 => ?_) (fun z5 => ?_)
        · simp [z5]
          obtain ⟨r4, h4, f4⟩ := pickI src (e + 1 + 1) s.sent.length (by omega) (by have := hs.bd.2; omega)
          have h4L : r4 < s.sent.length := by omega
          refine goDCall_gen [] [(1000, 1000)] [] [] none f4 (by simp [bsl]) (by simp [bsl]) ?_
          simp [bsl]
          obtain ⟨_, _, ⟨u1, u2, u3, u4, u5, u6, u7, b7, h7, hb7⟩, f7⟩ := l91Part_ok src (e + 1 + 1 + 1) (by omega)
          refine goDCall_gen [] [(1000, 1000)] [] [] none f7 (by simp [bsl]) (by simp [bsl]) ?_
          have hset := setEl_part (y := ⟨u1, u2, u3, u4, u5, u6, u7⟩) h4L
          simp [bsl, h4L, hset]
          exact ⟨_, _, .mk ⟨s.tag, s.streams, s.first, s.sent.set r4 ⟨u1, u2, u3, u4, u5, u6, u7⟩, s.acked⟩ b7 ⟨⟨hs.bd.1, by simpa using hs.bd.2⟩, hs.str⟩ (by omega), Ends.mk [] [(1000, 1000)] (by simp [bsl, side_v])⟩
        · simp [z5]
          exact ⟨_, _, .mk s (e + 1 + 1) hs (by omega), Ends.mk [] [(1000, 1000)] (by simp [bsl, side_v])⟩
      simp [z4]
      exact ⟨_, _, .mk s (e + 1 + 1) hs (by omega), Ends.mk [] [(1000, 1000)] (by simp [bsl, side_v])⟩
    simp [d3]
    have hs := hy.a
    generalize hS : y.a = s at *
    refine goPick (n := 16) rfl (by omega) (by omega) fun r3 h3 => ?_
    simp
    refine goTest_dec (fun z0 => ?_) (fun z0 => ?_)
    · simp [z0]
      refine goPick (n := 3) rfl (by omega) (by omega) fun r4 h4 => ?_
      simp
      exact ⟨_, _, .mk ⟨r4, s.streams, s.first, s.sent, s.acked⟩ (e + 1 + 1 + 1) ⟨hs.bd, hs.str⟩ (by omega), Ends.mk [] [(1000, 1000)] (by simp [bsl, side_v])⟩
    simp [z0]
    refine goTest_dec (fun z1 => ?_) (fun z1 => ?_)
    · simp [z1]
      refine goPick (n := 14) rfl (by omega) (by omega) fun r4 h4 => ?_
      simp
      exact ⟨by omega, _, _, .mk ⟨s.tag, s.streams, s.first, s.sent, r4 - 1⟩ (e + 1 + 1 + 1) ⟨hs.bd, hs.str⟩ (by omega), Ends.mk [] [(1000, 1000)] (by simp [bsl, side_v])⟩
    simp [z1]
    refine goTest_dec (fun z2 => ?_) (fun z2 => ?_)
    · simp [z2]
      refine goWord rfl (by omega) fun n1 b1 hn1 hb1 => ?_
      simp
      exact ⟨_, _, .mk ⟨s.tag, s.streams, n1, s.sent, s.acked⟩ b1 ⟨⟨by simp only; omega, hs.bd.2⟩, hs.str⟩ (by omega), Ends.mk [] [(1000, 1000)] (by simp [bsl, side_v])⟩
    simp [z2]
    refine goTest_dec (fun z3 => ?_) (fun z3 => ?_)
    · simp [z3]
      refine goPick (n := 7) rfl (by omega) (by omega) fun r4 h4 => ?_
      simp
      exact ⟨by omega, _, _, .mk ⟨s.tag, r4 - 1, s.first, s.sent, s.acked⟩ (e + 1 + 1 + 1) ⟨hs.bd, by simp only; omega⟩ (by omega), Ends.mk [] [(1000, 1000)] (by simp [bsl, side_v])⟩
    simp [z3]
    refine goTest_dec (fun z4 => ?_) (fun z4 => ?_)
    · simp [z4]
      refine goTest_dec (fun z5 => ?_) (fun z5 => ?_)
      · simp [z5]
        obtain ⟨r4, h4, f4⟩ := pickI src (e + 1 + 1) s.sent.length (by omega) (by have := hs.bd.2; omega)
        have h4L : r4 < s.sent.length := by omega
        refine goDCall_gen [] [(1000, 1000)] [] [] none f4 (by simp [bsl]) (by simp [bsl]) ?_
        simp [bsl]
        obtain ⟨_, _, ⟨u1, u2, u3, u4, u5, u6, u7, b7, h7, hb7⟩, f7⟩ := l91Part_ok src (e + 1 + 1 + 1) (by omega)
        refine goDCall_gen [] [(1000, 1000)] [] [] none f7 (by simp [bsl]) (by simp [bsl]) ?_
        have hset := setEl_part (y := ⟨u1, u2, u3, u4, u5, u6, u7⟩) h4L
        simp [bsl, h4L, hset]
        exact ⟨_, _, .mk ⟨s.tag, s.streams, s.first, s.sent.set r4 ⟨u1, u2, u3, u4, u5, u6, u7⟩, s.acked⟩ b7 ⟨⟨hs.bd.1, by simpa using hs.bd.2⟩, hs.str⟩ (by omega), Ends.mk [] [(1000, 1000)] (by simp [bsl, side_v])⟩
      · simp [z5]
        exact ⟨_, _, .mk s (e + 1 + 1) hs (by omega), Ends.mk [] [(1000, 1000)] (by simp [bsl, side_v])⟩
    simp [z4]
    exact ⟨_, _, .mk s (e + 1 + 1) hs (by omega), Ends.mk [] [(1000, 1000)] (by simp [bsl, side_v])⟩
end

section
set_option maxRecDepth 200000
set_option maxHeartbeats 16000000
attribute [-simp] List.getD_eq_getElem?_getD

/-- A part that was drawn. -/
inductive PnR (src : List UInt8) (a k : Int) : V → List (List V) → Prop
  | mk (d : Part) (b : Int) (hb : a ≤ b ∧ b ≤ a + k) : PnR src a k d.v [[bsl src, .int .i64 b]]

theorem l92New_ok (src : List UInt8) (a : Int) (s : Side) (h : 0 ≤ a ∧ a < 4900000) (hs : s.dr) : ∃ R bo, PnR src a 20 R bo ∧ Fn Tryz.prog fn_spec_l92New [.ptr 1000 0, s.v] [[bsl src, .int .i64 a]] R bo := by
  refine Fx.of_go ln_spec_l92New rfl ?_
  have hst := hs.str
  have hf := hs.bd.1
  have hl := hs.bd.2
  have g1 := l3Add_ok s.first s.sent.length (by omega) (by omega) (by omega)
  simp [ac_spec_l92New, bsl, side_v]
  refine goDCall_eq g1 (by simp) (by simp) ?_
  have hmx : 0 < (if s.streams < 1 then 1 else s.streams) ∧ (if s.streams < 1 then 1 else s.streams) < 1000000 := by split <;> omega
  simp
  generalize (if s.streams < 1 then 1 else s.streams) = mx at *
  obtain ⟨r1, h1, f1⟩ := pickI src a mx (by omega) (by omega)
  refine goDCall_gen [] [(1000, 1000)] [] [] none f1 (by simp [bsl]) (by simp [bsl]) ?_
  simp [bsl]
  obtain ⟨tx, _, fo⟩ := of_ok src (a + 1) [[109, 111, 114, 101], [120], [121, 122]] (by omega) (by simp) (by simp)
  simp only [ssl, bsl] at fo
  refine goDCall_gen [] [(1000, 1000)] [320] [] none fo (by simp [bsl]) (by simp [bsl]) ?_
  simp [bsl]
  refine goPick (n := 2) rfl (by omega) (by omega) fun r2 h2 => ?_
  simp
  refine goPick (n := 3) rfl (by omega) (by omega) fun r3 h3 => ?_
  have g2 := l31Ssn_ok s.sent r1 (by omega)
  simp only [psl] at g2
  simp
  refine goCall_eq g2 (by simp) ?_
  simp
  have hv1 := addS_rng s.first s.sent.length
  generalize addS s.first s.sent.length = v1 at *
  generalize decide (r2 = 0) = v5
  generalize decide (r3 = 0) = v6
  generalize tx = v7
  generalize ((ssnN s.sent r1 : Nat) : Int) = v3
  generalize ((r1 : Nat) : Int) = v2
  clear g1 g2 f1 fo h1
  refine goTest_dec (fun hn => ?_) (fun hn => ?_)
  · have hc : ((s.sent.length : Int) - 1).toNat = s.sent.length - 1 := by omega
    have hl1 : s.sent.length - 1 < s.sent.length := by omega
    simp [hn, hc, hl1, pt_v]
    refine ⟨by omega, by omega, ?_⟩
    cases hla : (nth s.sent (s.sent.length - 1)).last
    · simp [hn, hc, hl1, pt_v]
      refine ⟨by omega, by omega, ?_⟩
      generalize (nth s.sent (s.sent.length - 1)).stream = v2
      generalize (nth s.sent (s.sent.length - 1)).ssn = v3
      generalize (nth s.sent (s.sent.length - 1)).loose = v6
      refine goPick (n := 10) rfl (by omega) (by omega) fun r5 h5 => ?_
      simp
      refine goTest_dec (fun z0 => ?_) (fun z0 => ?_)
      · simp [z0]
        obtain ⟨r6, h6, f6⟩ := pickI src (a + 1 + 1 + 1 + 1 + 1) 4 (by omega) (by omega)
        refine goDCall_gen [] [(1000, 1000)] [] [] none f6 (by simp [bsl]) (by simp [bsl]) ?_
        have g3 := l3Add_ok v1 ((r6 : Int) - 2) (by omega) (by omega) (by omega)
        simp [bsl]
        refine ⟨by omega, ?_⟩
        refine goCall_eq g3 (by simp) ?_
        simp
        exact ⟨_, _, .mk ⟨addS v1 ((r6 : Int) - 2), v2, v3, false, v5, v6, v7⟩ (a + 1 + 1 + 1 + 1 + 1 + 1) (by omega), Ends.mk [] [(1000, 1000)] (by simp [bsl, pt_v])⟩
      simp [z0]
      refine goTest_dec (fun z1 => ?_) (fun z1 => ?_)
      · simp [z1]
        refine goPick (n := 5) rfl (by omega) (by omega) fun r6 h6 => ?_
        simp
        exact ⟨_, _, .mk ⟨v1, r6, v3, false, v5, v6, v7⟩ (a + 1 + 1 + 1 + 1 + 1 + 1) (by omega), Ends.mk [] [(1000, 1000)] (by simp [bsl, pt_v])⟩
      simp [z1]
      refine goTest_dec (fun z2 => ?_) (fun z2 => ?_)
      · simp [z2]
        refine goPick (n := 4) rfl (by omega) (by omega) fun r6 h6 => ?_
        simp
        exact ⟨_, _, .mk ⟨v1, v2, r6, false, v5, v6, v7⟩ (a + 1 + 1 + 1 + 1 + 1 + 1) (by omega), Ends.mk [] [(1000, 1000)] (by simp [bsl, pt_v])⟩
      simp [z2]
      refine goTest_dec (fun z3 => ?_) (fun z3 => ?_)
      · simp [z3]
        exact ⟨_, _, .mk ⟨v1, v2, v3, true, v5, v6, v7⟩ (a + 1 + 1 + 1 + 1 + 1) (by omega), Ends.mk [] [(1000, 1000)] (by simp [bsl, pt_v])⟩
      simp [z3]
      refine goTest_dec (fun z4 => ?_) (fun z4 => ?_)
      · simp [z4]
        simp [hn]
        obtain ⟨r6, h6, f6⟩ := pickI src (a + 1 + 1 + 1 + 1 + 1) s.sent.length (by omega) (by omega)
        have h6L : r6 < s.sent.length := by omega
        refine goDCall_gen [] [(1000, 1000)] [] [] none f6 (by simp [bsl]) (by simp [bsl]) ?_
        simp [bsl, h6L, pt_v]
        refine goPick (n := 2) rfl (by omega) (by omega) fun r7 h7 => ?_
        simp
        refine goTest_dec (fun z5 => ?_) (fun z5 => ?_)
        · simp [z5]
          exact ⟨_, _, .mk ⟨(nth s.sent r6).tsn, (nth s.sent r6).stream, (nth s.sent r6).ssn, (nth s.sent r6).first, (nth s.sent r6).last, (nth s.sent r6).loose, [111, 116, 104, 101, 114]⟩ (a + 1 + 1 + 1 + 1 + 1 + 1 + 1) (by omega), Ends.mk [] [(1000, 1000)] (by simp [bsl, pt_v])⟩
        · simp [z5]
          exact ⟨_, _, .mk (nth s.sent r6) (a + 1 + 1 + 1 + 1 + 1 + 1 + 1) (by omega), Ends.mk [] [(1000, 1000)] (by simp [bsl, pt_v])⟩
      simp [z4]
      exact ⟨_, _, .mk ⟨v1, v2, v3, false, v5, v6, v7⟩ (a + 1 + 1 + 1 + 1 + 1) (by omega), Ends.mk [] [(1000, 1000)] (by simp [bsl, pt_v])⟩
    · simp
      refine goPick (n := 10) rfl (by omega) (by omega) fun r5 h5 => ?_
      simp
      refine goTest_dec (fun z0 => ?_) (fun z0 => ?_)
      · simp [z0]
        obtain ⟨r6, h6, f6⟩ := pickI src (a + 1 + 1 + 1 + 1 + 1) 4 (by omega) (by omega)
        refine goDCall_gen [] [(1000, 1000)] [] [] none f6 (by simp [bsl]) (by simp [bsl]) ?_
        have g3 := l3Add_ok v1 ((r6 : Int) - 2) (by omega) (by omega) (by omega)
        simp [bsl]
        refine ⟨by omega, ?_⟩
        refine goCall_eq g3 (by simp) ?_
        simp
        exact ⟨_, _, .mk ⟨addS v1 ((r6 : Int) - 2), v2, v3, true, v5, v6, v7⟩ (a + 1 + 1 + 1 + 1 + 1 + 1) (by omega), Ends.mk [] [(1000, 1000)] (by simp [bsl, pt_v])⟩
      simp [z0]
      refine goTest_dec (fun z1 => ?_) (fun z1 => ?_)
      · simp [z1]
        refine goPick (n := 5) rfl (by omega) (by omega) fun r6 h6 => ?_
        simp
        exact ⟨_, _, .mk ⟨v1, r6, v3, true, v5, v6, v7⟩ (a + 1 + 1 + 1 + 1 + 1 + 1) (by omega), Ends.mk [] [(1000, 1000)] (by simp [bsl, pt_v])⟩
      simp [z1]
      refine goTest_dec (fun z2 => ?_) (fun z2 => ?_)
      · simp [z2]
        refine goPick (n := 4) rfl (by omega) (by omega) fun r6 h6 => ?_
        simp
        exact ⟨_, _, .mk ⟨v1, v2, r6, true, v5, v6, v7⟩ (a + 1 + 1 + 1 + 1 + 1 + 1) (by omega), Ends.mk [] [(1000, 1000)] (by simp [bsl, pt_v])⟩
      simp [z2]
      refine goTest_dec (fun z3 => ?_) (fun z3 => ?_)
      · simp [z3]
        exact ⟨_, _, .mk ⟨v1, v2, v3, false, v5, v6, v7⟩ (a + 1 + 1 + 1 + 1 + 1) (by omega), Ends.mk [] [(1000, 1000)] (by simp [bsl, pt_v])⟩
      simp [z3]
      refine goTest_dec (fun z4 => ?_) (fun z4 => ?_)
      · simp [z4]
        simp [hn]
        obtain ⟨r6, h6, f6⟩ := pickI src (a + 1 + 1 + 1 + 1 + 1) s.sent.length (by omega) (by omega)
        have h6L : r6 < s.sent.length := by omega
        refine goDCall_gen [] [(1000, 1000)] [] [] none f6 (by simp [bsl]) (by simp [bsl]) ?_
        simp [bsl, h6L, pt_v]
        refine goPick (n := 2) rfl (by omega) (by omega) fun r7 h7 => ?_
        simp
        refine goTest_dec (fun z5 => ?_) (fun z5 => ?_)
        · simp [z5]
          exact ⟨_, _, .mk ⟨(nth s.sent r6).tsn, (nth s.sent r6).stream, (nth s.sent r6).ssn, (nth s.sent r6).first, (nth s.sent r6).last, (nth s.sent r6).loose, [111, 116, 104, 101, 114]⟩ (a + 1 + 1 + 1 + 1 + 1 + 1 + 1) (by omega), Ends.mk [] [(1000, 1000)] (by simp [bsl, pt_v])⟩
        · simp [z5]
          exact ⟨_, _, .mk (nth s.sent r6) (a + 1 + 1 + 1 + 1 + 1 + 1 + 1) (by omega), Ends.mk [] [(1000, 1000)] (by simp [bsl, pt_v])⟩
      simp [z4]
      exact ⟨_, _, .mk ⟨v1, v2, v3, true, v5, v6, v7⟩ (a + 1 + 1 + 1 + 1 + 1) (by omega), Ends.mk [] [(1000, 1000)] (by simp [bsl, pt_v])⟩
  · have e0 : s.sent = [] := List.eq_nil_of_length_eq_zero (by omega)
    simp [e0]
    refine goPick (n := 10) rfl (by omega) (by omega) fun r5 h5 => ?_
    simp
    refine goTest_dec (fun z0 => ?_) (fun z0 => ?_)
    · simp [z0]
      obtain ⟨r6, h6, f6⟩ := pickI src (a + 1 + 1 + 1 + 1 + 1) 4 (by omega) (by omega)
      refine goDCall_gen [] [(1000, 1000)] [] [] none f6 (by simp [bsl]) (by simp [bsl]) ?_
      have g3 := l3Add_ok v1 ((r6 : Int) - 2) (by omega) (by omega) (by omega)
      simp [bsl]
      refine ⟨by omega, ?_⟩
      refine goCall_eq g3 (by simp) ?_
      simp
      exact ⟨_, _, .mk ⟨addS v1 ((r6 : Int) - 2), v2, v3, true, v5, v6, v7⟩ (a + 1 + 1 + 1 + 1 + 1 + 1) (by omega), Ends.mk [] [(1000, 1000)] (by simp [bsl, pt_v])⟩
    simp [z0]
    refine goTest_dec (fun z1 => ?_) (fun z1 => ?_)
    · simp [z1]
      refine goPick (n := 5) rfl (by omega) (by omega) fun r6 h6 => ?_
      simp
      exact ⟨_, _, .mk ⟨v1, r6, v3, true, v5, v6, v7⟩ (a + 1 + 1 + 1 + 1 + 1 + 1) (by omega), Ends.mk [] [(1000, 1000)] (by simp [bsl, pt_v])⟩
    simp [z1]
    refine goTest_dec (fun z2 => ?_) (fun z2 => ?_)
    · simp [z2]
      refine goPick (n := 4) rfl (by omega) (by omega) fun r6 h6 => ?_
      simp
      exact ⟨_, _, .mk ⟨v1, v2, r6, true, v5, v6, v7⟩ (a + 1 + 1 + 1 + 1 + 1 + 1) (by omega), Ends.mk [] [(1000, 1000)] (by simp [bsl, pt_v])⟩
    simp [z2]
    refine goTest_dec (fun z3 => ?_) (fun z3 => ?_)
    · simp [z3]
      exact ⟨_, _, .mk ⟨v1, v2, v3, false, v5, v6, v7⟩ (a + 1 + 1 + 1 + 1 + 1) (by omega), Ends.mk [] [(1000, 1000)] (by simp [bsl, pt_v])⟩
    simp [z3]
    refine goTest_dec (fun z4 => ?_) (fun z4 => ?_)
    · simp [z4]
      exact ⟨_, _, .mk ⟨v1, v2, v3, true, v5, v6, v7⟩ (a + 1 + 1 + 1 + 1 + 1) (by omega), Ends.mk [] [(1000, 1000)] (by simp [bsl, pt_v])⟩
    simp [z4]
    exact ⟨_, _, .mk ⟨v1, v2, v3, true, v5, v6, v7⟩ (a + 1 + 1 + 1 + 1 + 1) (by omega), Ends.mk [] [(1000, 1000)] (by simp [bsl, pt_v])⟩
end

end Go.Proofs.YtpcfbgeabehmbaaGreat
