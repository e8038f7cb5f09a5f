/-
  Sides drawn; wrong associations.
  Parts and chunks that a side may send next, drawn.
  Wrong associations, chunks and packets drawn.
  Packets for an association, drawn.
  Comparing lists, sides and associations; packets of a side.
  What the laws of steps have in common.
  Monitors of the program: valid ones, and what is found in them.
-/
import Derived.Test.YtnhhcfbigjpfeaaGreatDoorQ27
import Derived.Test.YtnhhcfbigjpfeaaGreatDoorQ25
import Derived.Test.YtnhhcfbigjpfeaaGreatDoorQ18
import Derived.Test.YtnhhcfbigjpfeaaGreatDoorQ24
namespace Go.Proofs.YtnhhcfbigjpfeaaGreatDoor
set_option linter.all false

section
set_option maxRecDepth 200000
set_option maxHeartbeats 16000000
attribute [-simp] List.getD_eq_getElem?_getD

section
variable {st : St} {p : Nat} {src : List UInt8} {a : Int} {d : AD} {rs : List AOp} {k : List It} {Q : AE → St → Prop}
theorem goAssoc (hb : lookB st.box p = some [bsl src, .int .i64 a]) (ha : 0 ≤ a ∧ a < 4900000)
    (h : ∀ (x : Assoc) (b : Int), x.dr → (a ≤ b ∧ b ≤ a + 700) → go Tryz.prog (.ops rs :: k) Q .normal (Delta.apply { val := x.v, nb := [(p, [.sl none 1 (src.map byteV), .int .i64 b])] } st d)) : goCall Tryz.prog fn_spec_l92Assoc [.ptr p 0] d rs k Q st := by
  obtain ⟨_, _, ⟨m, b, hm, hb2⟩, f⟩ := l92Assoc_ok src a (by omega)
  refine goCall_gen [] [(1000, p)] [] [] none f (by simp [bsl, hb, assoc_v]) ?_
  have := h m b hm hb2
  simpa [bsl, assoc_v] using this
end

theorem setEl_part {l : List Part} {j : Nat} {y : Part} (h : j < l.length) : setEl j 0 [.int .i64 y.tsn, .int .i64 y.stream, .int .i64 y.ssn, .bool y.first, .bool y.last, .bool y.loose, .str y.text] (l.map Part.v) = (l.set j y).map Part.v := by
  unfold setEl
  rw [getD_map h, List.map_set]
  simp [pt_v, wrEl, setCells]

/-- A side that was drawn. -/
inductive SdR (src : List UInt8) (a k : Int) : V → List (List V) → Prop
  | mk (s : Side) (b : Int) (h : s.dr) (hb : a ≤ b ∧ b ≤ a + k) : SdR src a k s.v [[bsl src, .int .i64 b]]

theorem l92Side_ok (src : List UInt8) (a : Int) (h : 0 ≤ a ∧ a < 4800000) : ∃ R bo, SdR src a 1000 R bo ∧ Fn Tryz.prog fn_spec_l92Side [.ptr 1000 0] [[bsl src, .int .i64 a]] R bo := by
  refine Fx.of_go ln_spec_l92Side rfl ?_
  simp [ac_spec_l92Side, bsl]
  refine goAssoc rfl (by omega) fun x b hx hb => ?_
  simp [assoc_v]
  refine goPick (n := 3) rfl (by omega) (by omega) fun r1 h1 => ?_
  simp
  refine goTest_dec (fun q1 => ?_) (fun q1 => ?_)
  · simp
    refine goTalk rfl (by omega) fun t b2 ht hb2 => ?_
    have f1 := spec_TalkRecords_ok t 0 ht (by omega)
    obtain ⟨hl, htx⟩ := records_small t 0
    generalize recordsT t 0 = L at *
    have f2 := spec_MonitorRun_ok L (by omega) (fun r hr => by have := htx r hr; omega)
    have hm := run_sm L
    generalize runS L = m at *
    simp only [talk_v, rsl, mon_v] at f1 f2
    simp [talk_v]
    refine goCall_eq f1 (by simp) ?_
    simp
    refine goCall_eq f2 (by simp) ?_
    simp
    refine goTest_dec (fun q2 => ?_) (fun q2 => ?_)
    · have h0 : 0 < m.list.length := by omega
      have hx2 := Assoc.ok_dr (hm.each _ (nth_mem h0))
      simp [h0, assoc_v]
      clear f1 f2 hm htx hl hx
      generalize nth m.list 0 = y at *
      have hy := hx2
      generalize hE : b2 = e at *
      have he : a ≤ e ∧ e ≤ a + 801 := by omega
      clear hE q1 q2 h0 hb hb2
      have c1 := l31Copy_ok y (by have := hy.a.bd.2; omega) (by have := hy.b.bd.2; omega)
      simp only [assoc_v, own_c] at c1
      refine goCall_eq c1 (by simp) ?_
      simp
      refine goPick (n := 2) rfl (by omega) (by omega) fun r2 h2 => ?_
      simp
      cases d2 : decide (r2 = 0)
      rotate_left
      · simp
        refine goCall_eq c1 (by simp) ?_
        simp
        have hs := hy.b
        generalize hS : y.b = s at *
        refine goPick (n := 16) rfl (by omega) (by omega) fun r3 h3 => ?_
        simp
        refine goTest_dec (fun z0 => ?_) (fun z0 => ?_)
        · simp [z0]
          refine goPick (n := 3) rfl (by omega) (by omega) fun r4 h4 => ?_
          simp
          exact ⟨_, _, .mk ⟨r4, s.streams, s.first, s.sent, s.acked⟩ (e + 1 + 1 + 1) ⟨hs.bd, hs.str⟩ (by omega), Ends.mk [] [(1000, 1000)] (by simp [bsl, side_v])⟩
        simp [z0]
        refine goTest_dec (fun z1 => ?_) (fun z1 => ?_)
        · simp [z1]
          refine goPick (n := 14) rfl (by omega) (by omega) fun r4 h4 => ?_
          simp
          exact ⟨by omega, _, _, .mk ⟨s.tag, s.streams, s.first, s.sent, r4 - 1⟩ (e + 1 + 1 + 1) ⟨hs.bd, hs.str⟩ (by omega), Ends.mk [] [(1000, 1000)] (by simp [bsl, side_v])⟩
        simp [z1]
        refine goTest_dec (fun z2 => ?_) (fun z2 => ?_)
        · simp [z2]
          refine goWord rfl (by omega) fun n1 b1 hn1 hb1 => ?_
          simp
          exact ⟨_, _, .mk ⟨s.tag, s.streams, n1, s.sent, s.acked⟩ b1 ⟨⟨by simp only; omega, hs.bd.2⟩, hs.str⟩ (by omega), Ends.mk [] [(1000, 1000)] (by simp [bsl, side_v])⟩
        simp [z2]
        refine goTest_dec (fun z3 => ?_) (fun z3 => ?_)
        · simp [z3]
          refine goPick (n := 7) rfl (by omega) (by omega) fun r4 h4 => ?_
          simp
          exact ⟨by omega, _, _, .mk ⟨s.tag, r4 - 1, s.first, s.sent, s.acked⟩ (e + 1 + 1 + 1) ⟨hs.bd, by simp only; omega⟩ (by omega), Ends.mk [] [(1000, 1000)] (by simp [bsl, side_v])⟩
        simp [z3]
        refine goTest_dec (fun z4 => ?_) (fun z4 => ?_)
        · simp [z4]
          refine goTest_dec (fun z5 => ?_) (fun z5 => ?_)
          · simp [z5]
            obtain ⟨r4, h4, f4⟩ := pickI src (e + 1 + 1) s.sent.length (by omega) (by have := hs.bd.2; omega)
            have h4L : r4 < s.sent.length := by omega
            refine goDCall_gen [] [(1000, 1000)] [] [] none f4 (by simp [bsl]) (by simp [bsl]) ?_
            simp [bsl]
            obtain ⟨_, _, ⟨u1, u2, u3, u4, u5, u6, u7, b7, h7, hb7⟩, f7⟩ := l91Part_ok src (e + 1 + 1 + 1) (by omega)
            refine goDCall_gen [] [(1000, 1000)] [] [] none f7 (by simp [bsl]) (by simp [bsl]) ?_
            have hset := setEl_part (y := ⟨u1, u2, u3, u4, u5, u6, u7⟩) h4L
            simp [bsl, h4L, hset]
            exact ⟨_, _, .mk ⟨s.tag, s.streams, s.first, s.sent.set r4 ⟨u1, u2, u3, u4, u5, u6, u7⟩, s.acked⟩ b7 ⟨⟨hs.bd.1, by simpa using hs.bd.2⟩, hs.str⟩ (by omega), Ends.mk [] [(1000, 1000)] (by simp [bsl, side_v])⟩
          · simp [z5]
            exact ⟨_, _, .mk s (e + 1 + 1) hs (by omega), Ends.mk [] [(1000, 1000)] (by simp [bsl, side_v])⟩
        simp [z4]
        exact ⟨_, _, .mk s (e + 1 + 1) hs (by omega), Ends.mk [] [(1000, 1000)] (by simp [bsl, side_v])⟩
      simp
      refine goTest_dec (fun d3 => ?_) (fun d3 => ?_)
      · simp [d3]
        simp only [d3, List.map_nil] at c1
        refine goCall_eq c1 (by simp) ?_
        simp
        have hs := hy.b
        generalize hS : y.b = s at *
        refine goPick (n := 16) rfl (by omega) (by omega) fun r3 h3 => ?_
        simp
        refine goTest_dec (fun z0 => ?_) (fun z0 => ?_)
        · simp [z0]
          refine goPick (n := 3) rfl (by omega) (by omega) fun r4 h4 => ?_
          simp
          exact ⟨_, _, .mk ⟨r4, s.streams, s.first, s.sent, s.acked⟩ (e + 1 + 1 + 1) ⟨hs.bd, hs.str⟩ (by omega), Ends.mk [] [(1000, 1000)] (by simp [bsl, side_v])⟩
        simp [z0]
        refine goTest_dec (fun z1 => ?_) (fun z1 => ?_)
        · simp [z1]
          refine goPick (n := 14) rfl (by omega) (by omega) fun r4 h4 => ?_
          simp
          exact ⟨by omega, _, _, .mk ⟨s.tag, s.streams, s.first, s.sent, r4 - 1⟩ (e + 1 + 1 + 1) ⟨hs.bd, hs.str⟩ (by omega), Ends.mk [] [(1000, 1000)] (by simp [bsl, side_v])⟩
        simp [z1]
        refine goTest_dec (fun z2 => ?_) (fun z2 => ?_)
        · simp [z2]
          refine goWord rfl (by omega) fun n1 b1 hn1 hb1 => ?_
          simp
          exact ⟨_, _, .mk ⟨s.tag, s.streams, n1, s.sent, s.acked⟩ b1 ⟨⟨by simp only; omega, hs.bd.2⟩, hs.str⟩ (by omega), Ends.mk [] [(1000, 1000)] (by simp [bsl, side_v])⟩
        simp [z2]
        refine goTest_dec (fun z3 => ?_) (fun z3 => ?_)
        · simp [z3]
          refine goPick (n := 7) rfl (by omega) (by omega) fun r4 h4 => ?_
          simp
          exact ⟨by omega, _, _, .mk ⟨s.tag, r4 - 1, s.first, s.sent, s.acked⟩ (e + 1 + 1 + 1) ⟨hs.bd, by simp only; omega⟩ (by omega), Ends.mk [] [(1000, 1000)] (by simp [bsl, side_v])⟩
        simp [z3]
        refine goTest_dec (fun z4 => ?_) (fun z4 => ?_)
        · simp [z4]
          refine goTest_dec (fun z5 => ?_) (fun z5 => ?_)
          · simp [z5]
            obtain ⟨r4, h4, f4⟩ := pickI src (e + 1 + 1) s.sent.length (by omega) (by have := hs.bd.2; omega)
            have h4L : r4 < s.sent.length := by omega
            refine goDCall_gen [] [(1000, 1000)] [] [] none f4 (by simp [bsl]) (by simp [bsl]) ?_
            simp [bsl]
            obtain ⟨_, _, ⟨u1, u2, u3, u4, u5, u6, u7, b7, h7, hb7⟩, f7⟩ := l91Part_ok src (e + 1 + 1 + 1) (by omega)
            refine goDCall_gen [] [(1000, 1000)] [] [] none f7 (by simp [bsl]) (by simp [bsl]) ?_
            have hset := setEl_part (y := ⟨u1, u2, u3, u4, u5, u6, u7⟩) h4L
            simp [bsl, h4L, hset]
            exact ⟨_, _, .mk ⟨s.tag, s.streams, s.first, s.sent.set r4 ⟨u1, u2, u3, u4, u5, u6, u7⟩, s.acked⟩ b7 ⟨⟨hs.bd.1, by simpa using hs.bd.2⟩, hs.str⟩ (by omega), Ends.mk [] [(1000, 1000)] (by simp [bsl, side_v])⟩
          · simp [z5]
            exact ⟨_, _, .mk s (e + 1 + 1) hs (by omega), Ends.mk [] [(1000, 1000)] (by simp [bsl, side_v])⟩
        simp [z4]
        exact ⟨_, _, .mk s (e + 1 + 1) hs (by omega), Ends.mk [] [(1000, 1000)] (by simp [bsl, side_v])⟩
      simp [d3]
      have hs := hy.a
      generalize hS : y.a = s at *
      refine goPick (n := 16) rfl (by omega) (by omega) fun r3 h3 => ?_
      simp
      refine goTest_dec (fun z0 => ?_) (fun z0 => ?_)
      · simp [z0]
        refine goPick (n := 3) rfl (by omega) (by omega) fun r4 h4 => ?_
        simp
        exact ⟨_, _, .mk ⟨r4, s.streams, s.first, s.sent, s.acked⟩ (e + 1 + 1 + 1) ⟨hs.bd, hs.str⟩ (by omega), Ends.mk [] [(1000, 1000)] (by simp [bsl, side_v])⟩
      simp [z0]
      refine goTest_dec (fun z1 => ?_) (fun z1 => ?_)
      · simp [z1]
        refine goPick (n := 14) rfl (by omega) (by omega) fun r4 h4 => ?_
        simp
        exact ⟨by omega, _, _, .mk ⟨s.tag, s.streams, s.first, s.sent, r4 - 1⟩ (e + 1 + 1 + 1) ⟨hs.bd, hs.str⟩ (by omega), Ends.mk [] [(1000, 1000)] (by simp [bsl, side_v])⟩
      simp [z1]
      refine goTest_dec (fun z2 => ?_) (fun z2 => ?_)
      · simp [z2]
        refine goWord rfl (by omega) fun n1 b1 hn1 hb1 => ?_
        simp
        exact ⟨_, _, .mk ⟨s.tag, s.streams, n1, s.sent, s.acked⟩ b1 ⟨⟨by simp only; omega, hs.bd.2⟩, hs.str⟩ (by omega), Ends.mk [] [(1000, 1000)] (by simp [bsl, side_v])⟩
      simp [z2]
      refine goTest_dec (fun z3 => ?_) (fun z3 => ?_)
      · simp [z3]
        refine goPick (n := 7) rfl (by omega) (by omega) fun r4 h4 => ?_
        simp
        exact ⟨by omega, _, _, .mk ⟨s.tag, r4 - 1, s.first, s.sent, s.acked⟩ (e + 1 + 1 + 1) ⟨hs.bd, by simp only; omega⟩ (by omega), Ends.mk [] [(1000, 1000)] (by simp [bsl, side_v])⟩
      simp [z3]
      refine goTest_dec (fun z4 => ?_) (fun z4 => ?_)
      · simp [z4]
        refine goTest_dec (fun z5 => ?_) (fun z5 => ?_)
        · simp [z5]
          obtain ⟨r4, h4, f4⟩ := pickI src (e + 1 + 1) s.sent.length (by omega) (by have := hs.bd.2; omega)
          have h4L : r4 < s.sent.length := by omega
          refine goDCall_gen [] [(1000, 1000)] [] [] none f4 (by simp [bsl]) (by simp [bsl]) ?_
          simp [bsl]
          obtain ⟨_, _, ⟨u1, u2, u3, u4, u5, u6, u7, b7, h7, hb7⟩, f7⟩ := l91Part_ok src (e + 1 + 1 + 1) (by omega)
          refine goDCall_gen [] [(1000, 1000)] [] [] none f7 (by simp [bsl]) (by simp [bsl]) ?_
          have hset := setEl_part (y := ⟨u1, u2, u3, u4, u5, u6, u7⟩) h4L
          simp [bsl, h4L, hset]
          exact ⟨_, _, .mk ⟨s.tag, s.streams, s.first, s.sent.set r4 ⟨u1, u2, u3, u4, u5, u6, u7⟩, s.acked⟩ b7 ⟨⟨hs.bd.1, by simpa using hs.bd.2⟩, hs.str⟩ (by omega), Ends.mk [] [(1000, 1000)] (by simp [bsl, side_v])⟩
        · simp [z5]
          exact ⟨_, _, .mk s (e + 1 + 1) hs (by omega), Ends.mk [] [(1000, 1000)] (by simp [bsl, side_v])⟩
      simp [z4]
      exact ⟨_, _, .mk s (e + 1 + 1) hs (by omega), Ends.mk [] [(1000, 1000)] (by simp [bsl, side_v])⟩
    · simp
      clear f1 f2 hm htx hl
      generalize x = y at *
      have hy := hx
      generalize hE : b2 = e at *
      have he : a ≤ e ∧ e ≤ a + 801 := by omega
      clear hE q1 q2 hb hb2
      have c1 := l31Copy_ok y (by have := hy.a.bd.2; omega) (by have := hy.b.bd.2; omega)
      simp only [assoc_v, own_c] at c1
      refine goCall_eq c1 (by simp) ?_
      simp
      refine goPick (n := 2) rfl (by omega) (by omega) fun r2 h2 => ?_
      simp
      cases d2 : decide (r2 = 0)
      rotate_left
      · simp
        refine goCall_eq c1 (by simp) ?_
        simp
        have hs := hy.b
        generalize hS : y.b = s at *
        refine goPick (n := 16) rfl (by omega) (by omega) fun r3 h3 => ?_
        simp
        refine goTest_dec (fun z0 => ?_) (fun z0 => ?_)
        · simp [z0]
          refine goPick (n := 3) rfl (by omega) (by omega) fun r4 h4 => ?_
          simp
          exact ⟨_, _, .mk ⟨r4, s.streams, s.first, s.sent, s.acked⟩ (e + 1 + 1 + 1) ⟨hs.bd, hs.str⟩ (by omega), Ends.mk [] [(1000, 1000)] (by simp [bsl, side_v])⟩
        simp [z0]
        refine goTest_dec (fun z1 => ?_) (fun z1 => ?_)
        · simp [z1]
          refine goPick (n := 14) rfl (by omega) (by omega) fun r4 h4 => ?_
          simp
          exact ⟨by omega, _, _, .mk ⟨s.tag, s.streams, s.first, s.sent, r4 - 1⟩ (e + 1 + 1 + 1) ⟨hs.bd, hs.str⟩ (by omega), Ends.mk [] [(1000, 1000)] (by simp [bsl, side_v])⟩
        simp [z1]
        refine goTest_dec (fun z2 => ?_) (fun z2 => ?_)
        · simp [z2]
          refine goWord rfl (by omega) fun n1 b1 hn1 hb1 => ?_
          simp
          exact ⟨_, _, .mk ⟨s.tag, s.streams, n1, s.sent, s.acked⟩ b1 ⟨⟨by simp only; omega, hs.bd.2⟩, hs.str⟩ (by omega), Ends.mk [] [(1000, 1000)] (by simp [bsl, side_v])⟩
        simp [z2]
        refine goTest_dec (fun z3 => ?_) (fun z3 => ?_)
        · simp [z3]
          refine goPick (n := 7) rfl (by omega) (by omega) fun r4 h4 => ?_
          simp
          exact ⟨by omega, _, _, .mk ⟨s.tag, r4 - 1, s.first, s.sent, s.acked⟩ (e + 1 + 1 + 1) ⟨hs.bd, by simp only; omega⟩ (by omega), Ends.mk [] [(1000, 1000)] (by simp [bsl, side_v])⟩
        simp [z3]
        refine goTest_dec (fun z4 => ?_) (fun z4 => ?_)
        · simp [z4]
          refine goTest_dec (fun z5 => ?_) (fun z5 => ?_)
          · simp [z5]
            obtain ⟨r4, h4, f4⟩ := pickI src (e + 1 + 1) s.sent.length (by omega) (by have := hs.bd.2; omega)
            have h4L : r4 < s.sent.length := by omega
            refine goDCall_gen [] [(1000, 1000)] [] [] none f4 (by simp [bsl]) (by simp [bsl]) ?_
            simp [bsl]
            obtain ⟨_, _, ⟨u1, u2, u3, u4, u5, u6, u7, b7, h7, hb7⟩, f7⟩ := l91Part_ok src (e + 1 + 1 + 1) (by omega)
            refine goDCall_gen [] [(1000, 1000)] [] [] none f7 (by simp [bsl]) (by simp [bsl]) ?_
            have hset := setEl_part (y := ⟨u1, u2, u3, u4, u5, u6, u7⟩) h4L
            simp [bsl, h4L, hset]
            exact ⟨_, _, .mk ⟨s.tag, s.streams, s.first, s.sent.set r4 ⟨u1, u2, u3, u4, u5, u6, u7⟩, s.acked⟩ b7 ⟨⟨hs.bd.1, by simpa using hs.bd.2⟩, hs.str⟩ (by omega), Ends.mk [] [(1000, 1000)] (by simp [bsl, side_v])⟩
          · simp [z5]
            exact ⟨_, _, .mk s (e + 1 + 1) hs (by omega), Ends.mk [] [(1000, 1000)] (by simp [bsl, side_v])⟩
        simp [z4]
        exact ⟨_, _, .mk s (e + 1 + 1) hs (by omega), Ends.mk [] [(1000, 1000)] (by simp [bsl, side_v])⟩
      simp
      refine goTest_dec (fun d3 => ?_) (fun d3 => ?_)
      · simp [d3]
        simp only [d3, List.map_nil] at c1
        refine goCall_eq c1 (by simp) ?_
        simp
        have hs := hy.b
        generalize hS : y.b = s at *
        refine goPick (n := 16) rfl (by omega) (by omega) fun r3 h3 => ?_
        simp
        refine goTest_dec (fun z0 => ?_) (fun z0 => ?_)
        · simp [z0]
          refine goPick (n := 3) rfl (by omega) (by omega) fun r4 h4 => ?_
          simp
          exact ⟨_, _, .mk ⟨r4, s.streams, s.first, s.sent, s.acked⟩ (e + 1 + 1 + 1) ⟨hs.bd, hs.str⟩ (by omega), Ends.mk [] [(1000, 1000)] (by simp [bsl, side_v])⟩
        simp [z0]
        refine goTest_dec (fun z1 => ?_) (fun z1 => ?_)
        · simp [z1]
          refine goPick (n := 14) rfl (by omega) (by omega) fun r4 h4 => ?_
          simp
          exact ⟨by omega, _, _, .mk ⟨s.tag, s.streams, s.first, s.sent, r4 - 1⟩ (e + 1 + 1 + 1) ⟨hs.bd, hs.str⟩ (by omega), Ends.mk [] [(1000, 1000)] (by simp [bsl, side_v])⟩
        simp [z1]
        refine goTest_dec (fun z2 => ?_) (fun z2 => ?_)
        · simp [z2]
          refine goWord rfl (by omega) fun n1 b1 hn1 hb1 => ?_
          simp
          exact ⟨_, _, .mk ⟨s.tag, s.streams, n1, s.sent, s.acked⟩ b1 ⟨⟨by simp only; omega, hs.bd.2⟩, hs.str⟩ (by omega), Ends.mk [] [(1000, 1000)] (by simp [bsl, side_v])⟩
        simp [z2]
        refine goTest_dec (fun z3 => ?_) (fun z3 => ?_)
        · simp [z3]
          refine goPick (n := 7) rfl (by omega) (by omega) fun r4 h4 => ?_
          simp
          exact ⟨by omega, _, _, .mk ⟨s.tag, r4 - 1, s.first, s.sent, s.acked⟩ (e + 1 + 1 + 1) ⟨hs.bd, by simp only; omega⟩ (by omega), Ends.mk [] [(1000, 1000)] (by simp [bsl, side_v])⟩
        simp [z3]
        refine goTest_dec (fun z4 => ?_) (fun z4 => ?_)
        · simp [z4]
          refine goTest_dec (fun z5 => ?_) (fun z5 => ?_)
          · simp [z5]
            obtain ⟨r4, h4, f4⟩ := pickI src (e + 1 + 1) s.sent.length (by omega) (by have := hs.bd.2; omega)
            have h4L : r4 < s.sent.length := by omega
            refine goDCall_gen [] [(1000, 1000)] [] [] none f4 (by simp [bsl]) (by simp [bsl]) ?_
            simp [bsl]
            obtain ⟨_, _, ⟨u1, u2, u3, u4, u5, u6, u7, b7, h7, hb7⟩, f7⟩ := l91Part_ok src (e + 1 + 1 + 1) (by omega)
            refine goDCall_gen [] [(1000, 1000)] [] [] none f7 (by simp [bsl]) (by simp [bsl]) ?_
            have hset := setEl_part (y := ⟨u1, u2, u3, u4, u5, u6, u7⟩) h4L
            simp [bsl, h4L, hset]
            exact ⟨_, _, .mk ⟨s.tag, s.streams, s.first, s.sent.set r4 ⟨u1, u2, u3, u4, u5, u6, u7⟩, s.acked⟩ b7 ⟨⟨hs.bd.1, by simpa using hs.bd.2⟩, hs.str⟩ (by omega), Ends.mk [] [(1000, 1000)] (by simp [bsl, side_v])⟩
          · simp [z5]
            exact ⟨_, _, .mk s (e + 1 + 1) hs (by omega), Ends.mk [] [(1000, 1000)] (by simp [bsl, side_v])⟩
        simp [z4]
        exact ⟨_, _, .mk s (e + 1 + 1) hs (by omega), Ends.mk [] [(1000, 1000)] (by simp [bsl, side_v])⟩
      simp [d3]
      have hs := hy.a
      generalize hS : y.a = s at *
      refine goPick (n := 16) rfl (by omega) (by omega) fun r3 h3 => ?_
      simp
      refine goTest_dec (fun z0 => ?_) (fun z0 => ?_)
      · simp [z0]
        refine goPick (n := 3) rfl (by omega) (by omega) fun r4 h4 => ?_
        simp
        exact ⟨_, _, .mk ⟨r4, s.streams, s.first, s.sent, s.acked⟩ (e + 1 + 1 + 1) ⟨hs.bd, hs.str⟩ (by omega), Ends.mk [] [(1000, 1000)] (by simp [bsl, side_v])⟩
      simp [z0]
      refine goTest_dec (fun z1 => ?_) (fun z1 => ?_)
      · simp [z1]
        refine goPick (n := 14) rfl (by omega) (by omega) fun r4 h4 => ?_
        simp
        exact ⟨by omega, _, _, .mk ⟨s.tag, s.streams, s.first, s.sent, r4 - 1⟩ (e + 1 + 1 + 1) ⟨hs.bd, hs.str⟩ (by omega), Ends.mk [] [(1000, 1000)] (by simp [bsl, side_v])⟩
      simp [z1]
      refine goTest_dec (fun z2 => ?_) (fun z2 => ?_)
      · simp [z2]
        refine goWord rfl (by omega) fun n1 b1 hn1 hb1 => ?_
        simp
        exact ⟨_, _, .mk ⟨s.tag, s.streams, n1, s.sent, s.acked⟩ b1 ⟨⟨by simp only; omega, hs.bd.2⟩, hs.str⟩ (by omega), Ends.mk [] [(1000, 1000)] (by simp [bsl, side_v])⟩
      simp [z2]
      refine goTest_dec (fun z3 => ?_) (fun z3 => ?_)
      · simp [z3]
        refine goPick (n := 7) rfl (by omega) (by omega) fun r4 h4 => ?_
        simp
        exact ⟨by omega, _, _, .mk ⟨s.tag, r4 - 1, s.first, s.sent, s.acked⟩ (e + 1 + 1 + 1) ⟨hs.bd, by simp only; omega⟩ (by omega), Ends.mk [] [(1000, 1000)] (by simp [bsl, side_v])⟩
      simp [z3]
      refine goTest_dec (fun z4 => ?_) (fun z4 => ?_)
      · simp [z4]
        refine goTest_dec (fun z5 => ?_) (fun z5 => ?_)
        · simp [z5]
          obtain ⟨r4, h4, f4⟩ := pickI src (e + 1 + 1) s.sent.length (by omega) (by have := hs.bd.2; omega)
          have h4L : r4 < s.sent.length := by omega
          refine goDCall_gen [] [(1000, 1000)] [] [] none f4 (by simp [bsl]) (by simp [bsl]) ?_
          simp [bsl]
          obtain ⟨_, _, ⟨u1, u2, u3, u4, u5, u6, u7, b7, h7, hb7⟩, f7⟩ := l91Part_ok src (e + 1 + 1 + 1) (by omega)
          refine goDCall_gen [] [(1000, 1000)] [] [] none f7 (by simp [bsl]) (by simp [bsl]) ?_
          have hset := setEl_part (y := ⟨u1, u2, u3, u4, u5, u6, u7⟩) h4L
          simp [bsl, h4L, hset]
          exact ⟨_, _, .mk ⟨s.tag, s.streams, s.first, s.sent.set r4 ⟨u1, u2, u3, u4, u5, u6, u7⟩, s.acked⟩ b7 ⟨⟨hs.bd.1, by simpa using hs.bd.2⟩, hs.str⟩ (by omega), Ends.mk [] [(1000, 1000)] (by simp [bsl, side_v])⟩
        · simp [z5]
          exact ⟨_, _, .mk s (e + 1 + 1) hs (by omega), Ends.mk [] [(1000, 1000)] (by simp [bsl, side_v])⟩
      simp [z4]
      exact ⟨_, _, .mk s (e + 1 + 1) hs (by omega), Ends.mk [] [(1000, 1000)] (by simp [bsl, side_v])⟩
  · simp
    generalize x = y at *
    have hy := hx
    generalize hE : b + 1 = e at *
    have he : a ≤ e ∧ e ≤ a + 801 := by omega
    clear hE q1 hb
    have c1 := l31Copy_ok y (by have := hy.a.bd.2; omega) (by have := hy.b.bd.2; omega)
    simp only [assoc_v, own_c] at c1
    refine goCall_eq c1 (by simp) ?_
    simp
    refine goPick (n := 2) rfl (by omega) (by omega) fun r2 h2 => ?_
    simp
    cases d2 : decide (r2 = 0)
    rotate_left
    · simp
      refine goCall_eq c1 (by simp) ?_
      simp
      have hs := hy.b
      generalize hS : y.b = s at *
      refine goPick (n := 16) rfl (by omega) (by omega) fun r3 h3 => ?_
      simp
      refine goTest_dec (fun z0 => ?_) (fun z0 => ?_)
      · simp [z0]
        refine goPick (n := 3) rfl (by omega) (by omega) fun r4 h4 => ?_
        simp
        exact ⟨_, _, .mk ⟨r4, s.streams, s.first, s.sent, s.acked⟩ (e + 1 + 1 + 1) ⟨hs.bd, hs.str⟩ (by omega), Ends.mk [] [(1000, 1000)] (by simp [bsl, side_v])⟩
      simp [z0]
      refine goTest_dec (fun z1 => ?_) (fun z1 => ?_)
      · simp [z1]
        refine goPick (n := 14) rfl (by omega) (by omega) fun r4 h4 => ?_
        simp
        exact ⟨by omega, _, _, .mk ⟨s.tag, s.streams, s.first, s.sent, r4 - 1⟩ (e + 1 + 1 + 1) ⟨hs.bd, hs.str⟩ (by omega), Ends.mk [] [(1000, 1000)] (by simp [bsl, side_v])⟩
      simp [z1]
      refine goTest_dec (fun z2 => ?_) (fun z2 => ?_)
      · simp [z2]
        refine goWord rfl (by omega) fun n1 b1 hn1 hb1 => ?_
        simp
        exact ⟨_, _, .mk ⟨s.tag, s.streams, n1, s.sent, s.acked⟩ b1 ⟨⟨by simp only; omega, hs.bd.2⟩, hs.str⟩ (by omega), Ends.mk [] [(1000, 1000)] (by simp [bsl, side_v])⟩
      simp [z2]
      refine goTest_dec (fun z3 => ?_) (fun z3 => ?_)
      · simp [z3]
        refine goPick (n := 7) rfl (by omega) (by omega) fun r4 h4 => ?_
        simp
        exact ⟨by omega, _, _, .mk ⟨s.tag, r4 - 1, s.first, s.sent, s.acked⟩ (e + 1 + 1 + 1) ⟨hs.bd, by simp only; omega⟩ (by omega), Ends.mk [] [(1000, 1000)] (by simp [bsl, side_v])⟩
      simp [z3]
      refine goTest_dec (fun z4 => ?_) (fun z4 => ?_)
      · simp [z4]
        refine goTest_dec (fun z5 => ?_) (fun z5 => ?_)
        · simp [z5]
          obtain ⟨r4, h4, f4⟩ := pickI src (e + 1 + 1) s.sent.length (by omega) (by have := hs.bd.2; omega)
          have h4L : r4 < s.sent.length := by omega
          refine goDCall_gen [] [(1000, 1000)] [] [] none f4 (by simp [bsl]) (by simp [bsl]) ?_
          simp [bsl]
          obtain ⟨_, _, ⟨u1, u2, u3, u4, u5, u6, u7, b7, h7, hb7⟩, f7⟩ := l91Part_ok src (e + 1 + 1 + 1) (by omega)
          refine goDCall_gen [] [(1000, 1000)] [] [] none f7 (by simp [bsl]) (by simp [bsl]) ?_
          have hset := setEl_part (y := ⟨u1, u2, u3, u4, u5, u6, u7⟩) h4L
          simp [bsl, h4L, hset]
          exact ⟨_, _, .mk ⟨s.tag, s.streams, s.first, s.sent.set r4 ⟨u1, u2, u3, u4, u5, u6, u7⟩, s.acked⟩ b7 ⟨⟨hs.bd.1, by simpa using hs.bd.2⟩, hs.str⟩ (by omega), Ends.mk [] [(1000, 1000)] (by simp [bsl, side_v])⟩
        · simp [z5]
          exact ⟨_, _, .mk s (e + 1 + 1) hs (by omega), Ends.mk [] [(1000, 1000)] (by simp [bsl, side_v])⟩
      simp [z4]
      exact ⟨_, _, .mk s (e + 1 + 1) hs (by omega), Ends.mk [] [(1000, 1000)] (by simp [bsl, side_v])⟩
    simp
    refine goTest_dec (fun d3 => ?_) (fun d3 => ?_)
    · simp [d3]
      simp only [d3, List.map_nil] at c1
      refine goCall_eq c1 (by simp) ?_
      simp
      have hs := hy.b
      generalize hS : y.b = s at *
      refine goPick (n := 16) rfl (by omega) (by omega) fun r3 h3 => ?_
      simp
      refine goTest_dec (fun z0 => ?_) (fun z0 => ?_)
      · simp [z0]
        refine goPick (n := 3) rfl (by omega) (by omega) fun r4 h4 => ?_
        simp
        exact ⟨_, _, .mk ⟨r4, s.streams, s.first, s.sent, s.acked⟩ (e + 1 + 1 + 1) ⟨hs.bd, hs.str⟩ (by omega), Ends.mk [] [(1000, 1000)] (by simp [bsl, side_v])⟩
      simp [z0]
      refine goTest_dec (fun z1 => ?_) (fun z1 => ?_)
      · simp [z1]
        refine goPick (n := 14) rfl (by omega) (by omega) fun r4 h4 => ?_
        simp
        exact ⟨by omega, _, _, .mk ⟨s.tag, s.streams, s.first, s.sent, r4 - 1⟩ (e + 1 + 1 + 1) ⟨hs.bd, hs.str⟩ (by omega), Ends.mk [] [(1000, 1000)] (by simp [bsl, side_v])⟩
      simp [z1]
      refine goTest_dec (fun z2 => ?_) (fun z2 => ?_)
      · simp [z2]
        refine goWord rfl (by omega) fun n1 b1 hn1 hb1 => ?_
        simp
        exact ⟨_, _, .mk ⟨s.tag, s.streams, n1, s.sent, s.acked⟩ b1 ⟨⟨by simp only; omega, hs.bd.2⟩, hs.str⟩ (by omega), Ends.mk [] [(1000, 1000)] (by simp [bsl, side_v])⟩
      simp [z2]
      refine goTest_dec (fun z3 => ?_) (fun z3 => ?_)
      · simp [z3]
        refine goPick (n := 7) rfl (by omega) (by omega) fun r4 h4 => ?_
        simp
        exact ⟨by omega, _, _, .mk ⟨s.tag, r4 - 1, s.first, s.sent, s.acked⟩ (e + 1 + 1 + 1) ⟨hs.bd, by simp only; omega⟩ (by omega), Ends.mk [] [(1000, 1000)] (by simp [bsl, side_v])⟩
      simp [z3]
      refine goTest_dec (fun z4 => ?_) (fun z4 => ?_)
      · simp [z4]
        refine goTest_dec (fun z5 => ?_) (fun z5 => ?_)
        · simp [z5]
          obtain ⟨r4, h4, f4⟩ := pickI src (e + 1 + 1) s.sent.length (by omega) (by have := hs.bd.2; omega)
          have h4L : r4 < s.sent.length := by omega
          refine goDCall_gen [] [(1000, 1000)] [] [] none f4 (by simp [bsl]) (by simp [bsl]) ?_
          simp [bsl]
          obtain ⟨_, _, ⟨u1, u2, u3, u4, u5, u6, u7, b7, h7, hb7⟩, f7⟩ := l91Part_ok src (e + 1 + 1 + 1) (by omega)
          refine goDCall_gen [] [(1000, 1000)] [] [] none f7 (by simp [bsl]) (by simp [bsl]) ?_
          have hset := setEl_part (y := ⟨u1, u2, u3, u4, u5, u6, u7⟩) h4L
          simp [bsl, h4L, hset]
          exact ⟨_, _, .mk ⟨s.tag, s.streams, s.first, s.sent.set r4 ⟨u1, u2, u3, u4, u5, u6, u7⟩, s.acked⟩ b7 ⟨⟨hs.bd.1, by simpa using hs.bd.2⟩, hs.str⟩ (by omega), Ends.mk [] [(1000, 1000)] (by simp [bsl, side_v])⟩
        · simp [z5]
          exact ⟨_, _, .mk s (e + 1 + 1) hs (by omega), Ends.mk [] [(1000, 1000)] (by simp [bsl, side_v])⟩
      simp [z4]
      exact ⟨_, _, .mk s (e + 1 + 1) hs (by omega), Ends.mk [] [(1000, 1000)] (by simp [bsl, side_v])⟩
    simp [d3]
    have hs := hy.a
    generalize hS : y.a = s at *
    refine goPick (n := 16) rfl (by omega) (by omega) fun r3 h3 => ?_
    simp
    refine goTest_dec (fun z0 => ?_) (fun z0 => ?_)
    · simp [z0]
      refine goPick (n := 3) rfl (by omega) (by omega) fun r4 h4 => ?_
      simp
      exact ⟨_, _, .mk ⟨r4, s.streams, s.first, s.sent, s.acked⟩ (e + 1 + 1 + 1) ⟨hs.bd, hs.str⟩ (by omega), Ends.mk [] [(1000, 1000)] (by simp [bsl, side_v])⟩
    simp [z0]
    refine goTest_dec (fun z1 => ?_) (fun z1 => ?_)
    · simp [z1]
      refine goPick (n := 14) rfl (by omega) (by omega) fun r4 h4 => ?_
      simp
      exact ⟨by omega, _, _, .mk ⟨s.tag, s.streams, s.first, s.sent, r4 - 1⟩ (e + 1 + 1 + 1) ⟨hs.bd, hs.str⟩ (by omega), Ends.mk [] [(1000, 1000)] (by simp [bsl, side_v])⟩
    simp [z1]
    refine goTest_dec (fun z2 => ?_) (fun z2 => ?_)
    · simp [z2]
      refine goWord rfl (by omega) fun n1 b1 hn1 hb1 => ?_
      simp
      exact ⟨_, _, .mk ⟨s.tag, s.streams, n1, s.sent, s.acked⟩ b1 ⟨⟨by simp only; omega, hs.bd.2⟩, hs.str⟩ (by omega), Ends.mk [] [(1000, 1000)] (by simp [bsl, side_v])⟩
    simp [z2]
    refine goTest_dec (fun z3 => ?_) (fun z3 => ?_)
    · simp [z3]
      refine goPick (n := 7) rfl (by omega) (by omega) fun r4 h4 => ?_
      simp
      exact ⟨by omega, _, _, .mk ⟨s.tag, r4 - 1, s.first, s.sent, s.acked⟩ (e + 1 + 1 + 1) ⟨hs.bd, by simp only; omega⟩ (by omega), Ends.mk [] [(1000, 1000)] (by simp [bsl, side_v])⟩
    simp [z3]
    refine goTest_dec (fun z4 => ?_) (fun z4 => ?_)
    · simp [z4]
      refine goTest_dec (fun z5 => ?_) (fun z5 => ?_)
      · simp [z5]
        obtain ⟨r4, h4, f4⟩ := pickI src (e + 1 + 1) s.sent.length (by omega) (by have := hs.bd.2; omega)
        have h4L : r4 < s.sent.length := by omega
        refine goDCall_gen [] [(1000, 1000)] [] [] none f4 (by simp [bsl]) (by simp [bsl]) ?_
        simp [bsl]
        obtain ⟨_, _, ⟨u1, u2, u3, u4, u5, u6, u7, b7, h7, hb7⟩, f7⟩ := l91Part_ok src (e + 1 + 1 + 1) (by omega)
        refine goDCall_gen [] [(1000, 1000)] [] [] none f7 (by simp [bsl]) (by simp [bsl]) ?_
        have hset := setEl_part (y := ⟨u1, u2, u3, u4, u5, u6, u7⟩) h4L
        simp [bsl, h4L, hset]
        exact ⟨_, _, .mk ⟨s.tag, s.streams, s.first, s.sent.set r4 ⟨u1, u2, u3, u4, u5, u6, u7⟩, s.acked⟩ b7 ⟨⟨hs.bd.1, by simpa using hs.bd.2⟩, hs.str⟩ (by omega), Ends.mk [] [(1000, 1000)] (by simp [bsl, side_v])⟩
      · simp [z5]
        exact ⟨_, _, .mk s (e + 1 + 1) hs (by omega), Ends.mk [] [(1000, 1000)] (by simp [bsl, side_v])⟩
    simp [z4]
    exact ⟨_, _, .mk s (e + 1 + 1) hs (by omega), Ends.mk [] [(1000, 1000)] (by simp [bsl, side_v])⟩
end

section
set_option maxRecDepth 200000
set_option maxHeartbeats 16000000
attribute [-simp] List.getD_eq_getElem?_getD

/-- A part that was drawn. -/
inductive PnR (src : List UInt8) (a k : Int) : V → List (List V) → Prop
  | mk (d : Part) (b : Int) (hb : a ≤ b ∧ b ≤ a + k) : PnR src a k d.v [[bsl src, .int .i64 b]]
end

section
set_option maxRecDepth 200000
set_option maxHeartbeats 16000000
attribute [-simp] List.getD_eq_getElem?_getD

section
variable {st : St} {p : Nat} {src : List UInt8} {a : Int} {d : AD} {rs : List AOp} {k : List It} {Q : AE → St → Prop}
theorem goSide (hb : lookB st.box p = some [bsl src, .int .i64 a]) (ha : 0 ≤ a ∧ a < 4800000)
    (h : ∀ (s : Side) (b : Int), s.dr → (a ≤ b ∧ b ≤ a + 1000) → go Tryz.prog (.ops rs :: k) Q .normal (Delta.apply { val := s.v, nb := [(p, [.sl none 1 (src.map byteV), .int .i64 b])] } st d)) : goCall Tryz.prog fn_spec_l92Side [.ptr p 0] d rs k Q st := by
  obtain ⟨_, _, ⟨m, b, hm, hb2⟩, f⟩ := l92Side_ok src a (by omega)
  refine goCall_gen [] [(1000, p)] [] [] none f (by simp [bsl, hb, side_v]) ?_
  have := h m b hm hb2
  simpa [bsl, side_v] using this
end

theorem l92Wrong_ok (src : List UInt8) (a : Int) (h : 0 ≤ a ∧ a < 4700000) : ∃ R bo, AsR src a 2000 R bo ∧ Fn Tryz.prog fn_spec_l92Wrong [.ptr 1000 0] [[bsl src, .int .i64 a]] R bo := by
  refine Fx.of_go ln_spec_l92Wrong rfl ?_
  simp [ac_spec_l92Wrong, bsl]
  refine goAssoc rfl (by omega) fun x b hx hb => ?_
  have c1 := l31Copy_ok x (by have := hx.a.bd.2; omega) (by have := hx.b.bd.2; omega)
  simp only [assoc_v, own_c] at c1
  simp [assoc_v]
  refine goCall_eq c1 (by simp) ?_
  simp
  refine goPick (n := 12) rfl (by omega) (by omega) fun r1 h1 => ?_
  simp
  refine goTest_dec (fun z0 => ?_) (fun z0 => ?_)
  · simp [z0]
    refine goPick (n := 10) rfl (by omega) (by omega) fun r2 h2 => ?_
    simp
    exact ⟨by omega, _, _, .mk { x with state := r2 - 1 } (b + 1 + 1) ⟨hx.a, hx.b⟩ (by omega), Ends.mk [] [(1000, 1000)] (by simp [bsl, assoc_v])⟩
  simp [z0]
  refine goTest_dec (fun z1 => ?_) (fun z1 => ?_)
  · simp [z1]
    refine goSide rfl (by omega) fun s b2 hs hb2 => ?_
    simp [side_v]
    exact ⟨_, _, .mk { x with a := s } b2 ⟨hs, hx.b⟩ (by omega), Ends.mk [] [(1000, 1000)] (by simp [bsl, assoc_v])⟩
  simp [z1]
  refine goTest_dec (fun z2 => ?_) (fun z2 => ?_)
  · simp [z2]
    refine goSide rfl (by omega) fun s b2 hs hb2 => ?_
    simp [side_v]
    exact ⟨_, _, .mk { x with b := s } b2 ⟨hx.a, hs⟩ (by omega), Ends.mk [] [(1000, 1000)] (by simp [bsl, assoc_v])⟩
  simp [z2]
  refine goTest_dec (fun z3 => ?_) (fun z3 => ?_)
  · simp [z3]
    exact ⟨_, _, .mk { x with byB := !x.byB } (b + 1) ⟨hx.a, hx.b⟩ (by omega), Ends.mk [] [(1000, 1000)] (by simp [bsl, assoc_v])⟩
  simp [z3]
  refine goTest_dec (fun z4 => ?_) (fun z4 => ?_)
  · simp [z4]
    refine goWord rfl (by omega) fun n1 b1 hn1 hb1 => ?_
    simp
    exact ⟨_, _, .mk { x with src := n1 } b1 ⟨hx.a, hx.b⟩ (by omega), Ends.mk [] [(1000, 1000)] (by simp [bsl, assoc_v])⟩
  simp [z4]
  exact ⟨_, _, .mk x (b + 1) hx (by omega), Ends.mk [] [(1000, 1000)] (by simp [bsl, assoc_v])⟩

/-- A chunk that was drawn. -/
inductive CnR (src : List UInt8) (a k : Int) : V → List (List V) → Prop
  | mk (c : Chunk) (b : Int) (hb : a ≤ b ∧ b ≤ a + k) : CnR src a k c.v [[bsl src, .int .i64 b]]

end

section
set_option maxRecDepth 200000
set_option maxHeartbeats 16000000
attribute [-simp] List.getD_eq_getElem?_getD

/-- A packet that was drawn. -/
inductive PqR (src : List UInt8) (a k : Int) : V → List (List V) → Prop
  | mk (p : Packet) (b : Int) (h : p.chunks.length ≤ 9) (hb : a ≤ b ∧ b ≤ a + k) : PqR src a k p.v [[bsl src, .int .i64 b]]

/-- An association and a packet that were drawn. -/
inductive ApR : V → List (List V) → Prop
  | mk (x : Assoc) (p : Packet) (hx : x.dr) (hp : p.chunks.length ≤ 9) : ApR (.tup [x.v, p.v]) []
end

section
set_option maxRecDepth 200000
set_option maxHeartbeats 4000000
attribute [-simp] List.getD_eq_getElem?_getD

end

section
set_option maxRecDepth 200000
set_option maxHeartbeats 8000000
attribute [-simp] List.getD_eq_getElem?_getD

end

section
set_option maxRecDepth 200000
set_option maxHeartbeats 8000000
attribute [-simp] List.getD_eq_getElem?_getD

theorem impl_MonitorValid_ok (m : Monitor) (hm : m.bd) : Fn Tryz.prog fn_impl_MonitorValid [m.v] [] (.bool m.ok) [] := by
  refine Fn.of_go ln_impl_MonitorValid rfl ?_
  have hl := hm.len
  have hf := hm.found
  have hr := hm.recs
  have hmo : m.ok = (allTo (listAt m.list) m.list.length && (fsOk m.records m.found && (inB m.records 0 60 && decide (m.list.length ≤ 3)))) := by unfold Monitor.ok; simp only [Bool.and_assoc]
  have no : ¬ (0 ≤ m.records ∧ m.records ≤ 60 ∧ m.list.length ≤ 3) → m.ok = false := by
    intro h
    rw [hmo]
    simp [inB]
    intros; omega
  simp [ac_impl_MonitorValid, mon_v]
  cases q1 : decide (m.records < 0)
  rotate_left
  · simp; exact Ends.mk [] [] (by simp [no (by have := of_decide_eq_true q1; omega)])
  simp
  cases q2 : decide (60 < m.records)
  rotate_left
  · simp; exact Ends.mk [] [] (by simp [no (by have := of_decide_eq_true q2; omega)])
  simp
  cases q3 : decide (3 < m.list.length)
  rotate_left
  · simp; exact Ends.mk [] [] (by simp [no (by have := of_decide_eq_true q3; omega)])
  simp
  have q1 := of_decide_eq_false q1
  have q2 := of_decide_eq_false q2
  have q3 := of_decide_eq_false q3
  refine go_loop (fun i : Nat => { env := [(1, .ptr 1 0), (22, .sl none 14 (m.list.map Assoc.v)), (23, .int .i64 (m.list.length : Nat)), (24, .int .i64 (i : Nat))], loc := [], box := [(1, m.cells)], stat := [] }) (fun i => i ≤ m.list.length ∧ allTo (listAt m.list) i = true) (fun i => m.list.length - i) 0 ⟨by omega, rfl⟩ (Weak.of [] [(1, 1)] (by simp [Monitor.cells, fsl])) ?_
  rintro i ⟨hi, hp⟩
  simp [Monitor.cells, fsl]
  refine goTest_dec (fun hlt => ?_) (fun hge => ?_)
  · have hbad := bad_list hlt
    have f1 := impl_AssocValid_ok (nth m.list i) (hm.each _ (nth_mem hlt))
    simp only [assoc_v] at f1
    have hla : listAt m.list i = ((nth m.list i).ok && decide ((nth m.list i).state ≠ 0) && allTo (fun k => !meet (nth m.list k).ports (nth m.list i).ports) i) := rfl
    simp [hlt, assoc_v]
    refine goCall_eq f1 (by simp) ?_
    cases q4 : (nth m.list i).ok
    · simp; exact Ends.mk [] [] (by simp [hbad (by simp [hla, q4])])
    simp
    refine goTest_dec (fun q5 => ?_) (fun q5 => ?_)
    · simp; exact Ends.mk [] [] (by simp [hbad (by simp [hla, q5])])
    simp
    obtain ⟨tk, htk⟩ : ∃ tk, tk = m.list.take i := ⟨_, rfl⟩
    have htl : tk.length = i := by rw [htk]; simp; omega
    have htn : ∀ k, k < i → nth tk k = nth m.list k := by
      intro k hk
      rw [nth_eq (by omega), nth_eq (by omega)]
      simp [htk]
    have htm : List.take i (m.list.map Assoc.v) = tk.map Assoc.v := by rw [htk, List.map_take]
    refine ⟨by omega, ?_⟩
    refine go_loop (fun k : Nat => { env := [(1, .ptr 1 0), (4, .ptr 4 0), (22, .sl none 14 (m.list.map Assoc.v)), (23, .int .i64 (m.list.length : Nat)), (24, .int .i64 (i : Nat)), (40, .sl none 14 (tk.map Assoc.v)), (41, .int .i64 (i : Nat)), (42, .int .i64 (k : Nat))], loc := [], box := [(1, m.cells), (4, (nth m.list i).cells)], stat := [] }) (fun k => k ≤ i ∧ allTo (fun k => !meet (nth m.list k).ports (nth m.list i).ports) k = true) (fun k => i - k) 0 ⟨by omega, rfl⟩ (Weak.of [] [(1, 1), (4, 4)] (by simp [Monitor.cells, fsl, Assoc.cells, Side.cells, psl, htm]; omega)) ?_
    rintro k ⟨hk, hpk⟩
    simp [Monitor.cells, fsl, Assoc.cells, Side.cells, psl]
    refine goTest_dec (fun hkl => ?_) (fun hkg => ?_)
    · have hkk : k < m.list.length := by omega
      have f2 := samePorts_ok (nth m.list k) (nth m.list i).src (nth m.list i).dst
      simp only [assoc_v] at f2
      have hpp : (nth m.list i).ports = ((nth m.list i).src, (nth m.list i).dst) := rfl
      simp [htl, hkl, htn k hkl, assoc_v]
      refine goCall_eq f2 (by simp) ?_
      simp
      refine goTest_bool (fun q6 => ?_) (fun q6 => ?_)
      · simp; exact Ends.mk [] [] (by simp [hbad (by rw [hla, allTo_false hkl (by simp [hpp, q6])]; simp)])
      · simp
        exact ⟨by omega, Again.mk (k + 1) ⟨hkl, allTo_succ hpk (by simp [hpp, q6])⟩ (by omega) (Weak.of [] [(1, 1), (4, 4)] (by simp [Monitor.cells, fsl, Assoc.cells, Side.cells, psl]))⟩
    · obtain rfl : k = i := by omega
      simp
      exact ⟨by omega, Again.mk (k + 1) ⟨hlt, allTo_succ hp (by rw [hla, q4, hpk]; simp [q5])⟩ (by omega) (Weak.of [] [(1, 1)] (by simp [Monitor.cells, fsl]))⟩
  · obtain rfl : i = m.list.length := by omega
    have f3 := foundOk_ok m.found m.records (by omega)
    simp only [fsl] at f3
    have e : m.ok = fsOk m.records m.found := by rw [hmo, hp]; simp [inB]; intros; omega
    rw [e]
    simp
    refine goCall_eq f3 (by simp) ?_
    simp
    exact Ends.mk [] [] (by simp)

end

end Go.Proofs.YtnhhcfbigjpfeaaGreatDoor
