/-
  Wrong associations, chunks and packets drawn.
  Packets for an association, drawn.
  Comparing lists, sides and associations; packets of a side.
  What the laws of steps have in common.
  From a contract over abstract values to what a row asks: the start, and arguments that are read.
  The library's variables at the start of a plain seat.
  How the program begins, told by its signs: what the row asks of it.
  What was said, and what is known to have come: contracts.
-/
import Derived.Test.YtldoekmblpghmaaGreatQ28
import Derived.Test.YtldoekmblpghmaaGreatQ25
import Derived.Test.YtldoekmblpghmaaGreatQ17
import Derived.Test.YtldoekmblpghmaaGreatQ23
import Derived.ProofKit
import Derived.HandedShaped
import Derived.Carry
import Derived.ChangeMaps5
import Derived.Test.YtldoekmblpghmaaGreatRows
namespace Go.Proofs.YtldoekmblpghmaaGreat
set_option linter.all false

section
set_option maxRecDepth 200000
set_option maxHeartbeats 16000000
attribute [-simp] List.getD_eq_getElem?_getD

section
variable {st : St} {p : Nat} {src : List UInt8} {a : Int} {d : AD} {rs : List AOp} {k : List It} {Q : AE → St → Prop}
theorem goSide (hb : lookB st.box p = some [bsl src, .int .i64 a]) (ha : 0 ≤ a ∧ a < 4800000)
    (h : ∀ (s : Side) (b : Int), s.dr → (a ≤ b ∧ b ≤ a + 1000) → go Tryz.prog (.ops rs :: k) Q .normal (Delta.apply { val := s.v, nb := [(p, [.sl none 1 (src.map byteV), .int .i64 b])] } st d)) : goCall Tryz.prog fn_spec_l92Side [.ptr p 0] d rs k Q st := by
  obtain ⟨_, _, ⟨m, b, hm, hb2⟩, f⟩ := l92Side_ok src a (by omega)
  refine goCall_gen [] [(1000, p)] [] [] none f (by simp [bsl, hb, side_v]) ?_
  have := h m b hm hb2
  simpa [bsl, side_v] using this
end

theorem l92Wrong_ok (src : List UInt8) (a : Int) (h : 0 ≤ a ∧ a < 4700000) : ∃ R bo, AsR src a 2000 R bo ∧ Fn Tryz.prog fn_spec_l92Wrong [.ptr 1000 0] [[bsl src, .int .i64 a]] R bo := by
  refine Fx.of_go ln_spec_l92Wrong rfl ?_
  simp [ac_spec_l92Wrong, bsl]
  refine goAssoc rfl (by omega) fun x b hx hb => ?_
  have c1 := l31Copy_ok x (by have := hx.a.bd.2; omega) (by have := hx.b.bd.2; omega)
  simp only [assoc_v, own_c] at c1
  simp [assoc_v]
  refine goCall_eq c1 (by simp) ?_
  simp
  refine goPick (n := 12) rfl (by omega) (by omega) fun r1 h1 => ?_
  simp
  refine goTest_dec (fun z0 => ?_) (fun z0 => ?_)
  · simp [z0]
    refine goPick (n := 10) rfl (by omega) (by omega) fun r2 h2 => ?_
    simp
    exact ⟨by omega, _, _, .mk { x with state := r2 - 1 } (b + 1 + 1) ⟨hx.a, hx.b⟩ (by omega), Ends.mk [] [(1000, 1000)] (by simp [bsl, assoc_v])⟩
  simp [z0]
  refine goTest_dec (fun z1 => ?_) (fun z1 => ?_)
  · simp [z1]
    refine goSide rfl (by omega) fun s b2 hs hb2 => ?_
    simp [side_v]
    exact ⟨_, _, .mk { x with a := s } b2 ⟨hs, hx.b⟩ (by omega), Ends.mk [] [(1000, 1000)] (by simp [bsl, assoc_v])⟩
  simp [z1]
  refine goTest_dec (fun z2 => ?_) (fun z2 => ?_)
  · simp [z2]
    refine goSide rfl (by omega) fun s b2 hs hb2 => ?_
    simp [side_v]
    exact ⟨_, _, .mk { x with b := s } b2 ⟨hx.a, hs⟩ (by omega), Ends.mk [] [(1000, 1000)] (by simp [bsl, assoc_v])⟩
  simp [z2]
  refine goTest_dec (fun z3 => ?_) (fun z3 => ?_)
  · simp [z3]
    exact ⟨_, _, .mk { x with byB := !x.byB } (b + 1) ⟨hx.a, hx.b⟩ (by omega), Ends.mk [] [(1000, 1000)] (by simp [bsl, assoc_v])⟩
  simp [z3]
  refine goTest_dec (fun z4 => ?_) (fun z4 => ?_)
  · simp [z4]
    refine goWord rfl (by omega) fun n1 b1 hn1 hb1 => ?_
    simp
    exact ⟨_, _, .mk { x with src := n1 } b1 ⟨hx.a, hx.b⟩ (by omega), Ends.mk [] [(1000, 1000)] (by simp [bsl, assoc_v])⟩
  simp [z4]
  exact ⟨_, _, .mk x (b + 1) hx (by omega), Ends.mk [] [(1000, 1000)] (by simp [bsl, assoc_v])⟩

/-- A chunk that was drawn. -/
inductive CnR (src : List UInt8) (a k : Int) : V → List (List V) → Prop
  | mk (c : Chunk) (b : Int) (hb : a ≤ b ∧ b ≤ a + k) : CnR src a k c.v [[bsl src, .int .i64 b]]

theorem tmod_rng {n : Int} (h : 0 ≤ n) : 0 ≤ n.tmod 65536 ∧ n.tmod 65536 < 65536 := by
  rw [Int.tmod_eq_emod_of_nonneg h]; omega

theorem l92Body_ok (src : List UInt8) (a : Int) (x : Assoc) (byB : Bool) (h : 0 ≤ a ∧ a < 4800000) (hx : x.dr) : ∃ R bo, CnR src a 40 R bo ∧ Fn Tryz.prog fn_spec_l92Body [.ptr 1000 0, x.v, .bool byB] [[bsl src, .int .i64 a]] R bo := by
  refine Fx.of_go ln_spec_l92Body rfl ?_
  have f1 := l31Side_ok x byB
  have hs : (x.side byB).dr := by cases byB; exact hx.a; exact hx.b
  have ho : (x.other byB).dr := by cases byB; exact hx.b; exact hx.a
  generalize x.side byB = s at *
  generalize x.other byB = o at *
  have hsf := hs.bd.1
  have hof := ho.bd.1
  have hol := ho.bd.2
  simp only [assoc_v, side_v] at f1
  simp [ac_spec_l92Body, bsl, assoc_v]
  refine goCall_eq f1 (by simp) ?_
  simp
  refine goPick (n := 8) rfl (by omega) (by omega) fun r1 h1 => ?_
  have hr : r1 = 0 ∨ r1 = 1 ∨ r1 = 2 ∨ r1 = 3 ∨ r1 = 4 ∨ r1 = 5 ∨ r1 = 6 ∨ r1 = 7 := by omega
  simp
  have hmx : 0 ≤ (if o.first < 0 then 0 else o.first) := by split <;> omega
  have hms : 0 ≤ (if s.first < 0 then 0 else s.first) := by split <;> omega
  obtain ⟨m1, hm1⟩ : ∃ m1, (if o.first < 0 then 0 else o.first) = m1 := ⟨_, rfl⟩
  obtain ⟨m2, hm2⟩ : ∃ m2, (if s.first < 0 then 0 else s.first) = m2 := ⟨_, rfl⟩
  rw [hm1] at hmx
  rw [hm2] at hms
  rcases hr with rfl | rfl | rfl | rfl | rfl | rfl | rfl | rfl
  iterate 3
    · simp
      obtain ⟨_, _, ⟨d, b, hb⟩, f2⟩ := l92New_ok src (a + 1) s (by omega) hs
      have w1 := spec_DataPut_ok d
      rw [opt_get] at w1
      simp only [side_v, pt_v, chunk_v] at f2 w1
      refine goCall_gen [] [(1000, 1000)] [] [] none f2 (by simp [bsl]) ?_
      simp
      refine goCall_eq w1 (by simp) ?_
      simp
      exact ⟨_, _, .mk ((putPart d).getD zChunk) b (by omega), Ends.mk [] [(1000, 1000)] (by simp [bsl, chunk_v])⟩
  iterate 2
    · simp
      have ht := tmod_rng hmx
      obtain ⟨r2, h2, f2⟩ := pickI src (a + 1) (o.sent.length + 2) (by omega) (by omega)
      have g1 := l3Add_ok (m1.tmod 65536) ((r2 : Int) - 1) (by omega) (by omega) (by omega)
      refine ⟨by omega, ?_⟩
      refine goDCall_gen [] [(1000, 1000)] [] [] none f2 (by simp [bsl]) (by simp [bsl]) ?_
      simp [bsl]
      refine ⟨by omega, ?_⟩
      rw [hm1]
      refine goDCall_eq g1 (by simp) (by simp) ?_
      simp
      refine goPick (n := 6) rfl (by omega) (by omega) fun r3 h3 => ?_
      generalize addS (m1.tmod 65536) ((r2 : Int) - 1) = v at *
      simp
      refine goTest_dec (fun z => ?_) (fun z => ?_)
      · have w1 := spec_SackPut_ok ⟨v, [(2, 2)]⟩ (by simp)
        rw [opt_get] at w1
        simp only [sk_v, chunk_v] at w1
        simp
        refine ⟨by unfold roomOk; omega, ?_⟩
        refine goCall_gen [] [] [] [832] none w1 (by simp [gV]) ?_
        simp
        exact ⟨_, _, .mk ((putSack ⟨v, [(2, 2)]⟩).getD zChunk) (a + 1 + 1 + 1) (by omega), Ends.mk [] [(1000, 1000)] (by simp [bsl, chunk_v])⟩
      · have w1 := spec_SackPut_ok ⟨v, []⟩ (by simp)
        rw [opt_get] at w1
        simp only [sk_v, chunk_v] at w1
        simp
        refine goCall_gen [] [] [] [832] none w1 (by simp) ?_
        simp
        exact ⟨_, _, .mk ((putSack ⟨v, []⟩).getD zChunk) (a + 1 + 1 + 1) (by omega), Ends.mk [] [(1000, 1000)] (by simp [bsl, chunk_v])⟩
  · simp
    have w1 := spec_InitPut_ok ⟨if s.tag < 1 then 1 else s.tag, 5, if s.streams < 1 then 1 else s.streams, m2.tmod 65536⟩ byB
    rw [opt_get] at w1
    simp only [hi_v, chunk_v] at w1
    rw [hm2]
    refine goCall_eq w1 (by simp) ?_
    simp
    exact ⟨_, _, .mk ((putHello ⟨if s.tag < 1 then 1 else s.tag, 5, if s.streams < 1 then 1 else s.streams, m2.tmod 65536⟩ byB).getD zChunk) (a + 1) (by omega), Ends.mk [] [(1000, 1000)] (by simp [bsl, chunk_v])⟩
  · simp
    refine goPick (n := 10) rfl (by omega) (by omega) fun r2 h2 => ?_
    have hr : r2 = 0 ∨ r2 = 1 ∨ r2 = 2 ∨ r2 = 3 ∨ r2 = 4 ∨ r2 = 5 ∨ r2 = 6 ∨ r2 = 7 ∨ r2 = 8 ∨ r2 = 9 := by omega
    rcases hr with rfl | rfl | rfl | rfl | rfl | rfl | rfl | rfl | rfl | rfl
    all_goals
      simp
      exact ⟨_, _, .mk ⟨_, 0, []⟩ (a + 1 + 1) (by omega), Ends.mk [] [(1000, 1000)] (by simp [bsl, chunk_v]; rfl)⟩
  · simp
    obtain ⟨j, hj, he⟩ : ∃ j : Nat, j ≤ 7 ∧ (if 7 < (if x.state < 0 then 0 else x.state) then 7 else (if x.state < 0 then 0 else x.state)) = (j : Int) := by
      by_cases q : x.state < 0
      · rw [if_pos q]; exact ⟨0, by omega, rfl⟩
      · rw [if_neg q]
        by_cases q2 : 7 < x.state
        · exact ⟨7, by omega, by rw [if_pos q2]; rfl⟩
        · exact ⟨x.state.toNat, by omega, by rw [if_neg q2]; omega⟩
    rw [he]
    have hr : j = 0 ∨ j = 1 ∨ j = 2 ∨ j = 3 ∨ j = 4 ∨ j = 5 ∨ j = 6 ∨ j = 7 := by omega
    rcases hr with rfl | rfl | rfl | rfl | rfl | rfl | rfl | rfl
    all_goals
      simp
      exact ⟨_, _, .mk ⟨_, 0, []⟩ (a + 1) (by omega), Ends.mk [] [(1000, 1000)] (by simp [bsl, chunk_v]; rfl)⟩
end

section
set_option maxRecDepth 200000
set_option maxHeartbeats 16000000
attribute [-simp] List.getD_eq_getElem?_getD

/-- A packet that was drawn. -/
inductive PqR (src : List UInt8) (a k : Int) : V → List (List V) → Prop
  | mk (p : Packet) (b : Int) (h : p.chunks.length ≤ 9) (hb : a ≤ b ∧ b ≤ a + k) : PqR src a k p.v [[bsl src, .int .i64 b]]

theorem l92Packet_ok (src : List UInt8) (a : Int) (x : Assoc) (h : 0 ≤ a ∧ a < 4700000) (hx : x.dr) : ∃ R bo, PqR src a 500 R bo ∧ Fn Tryz.prog fn_spec_l92Packet [.ptr 1000 0, x.v] [[bsl src, .int .i64 a]] R bo := by
  refine Fx.of_go ln_spec_l92Packet rfl ?_
  simp [ac_spec_l92Packet, bsl, assoc_v]
  refine goPick (n := 2) rfl (by omega) (by omega) fun r1 h1 => ?_
  simp
  obtain ⟨_, _, ⟨c, b, hb⟩, f1⟩ := l92Body_ok src (a + 1) x (decide (r1 = 0)) (by omega) hx
  cases d1 : decide (r1 = 0)
  all_goals
    rw [d1] at f1
    simp only [assoc_v, chunk_v] at f1
    refine goDCall_gen [] [(1000, 1000)] [] [] none f1 (by simp [bsl]) (by simp [bsl]) ?_
    simp [bsl]
    refine goTest_dec (fun q => ?_) (fun q => ?_)
    all_goals
      simp
      refine goPick (n := 10) rfl (by omega) (by omega) fun r2 h2 => ?_
      simp
      refine goTest_dec (fun z0 => ?_) (fun z0 => ?_)
      · simp [z0]
        obtain ⟨_, _, ⟨c2, b2, hb2⟩, f2⟩ := l92Body_ok src (b + 1) x (decide (r1 = 0)) (by omega) hx
        rw [d1] at f2
        simp only [assoc_v, chunk_v] at f2
        refine goDCall_gen [] [(1000, 1000)] [] [] none f2 (by simp [bsl]) (by simp [bsl]) ?_
        simp [bsl]
        refine ⟨by unfold roomOk; omega, ?_⟩
        exact ⟨_, _, .mk ⟨_, _, _, [c, c2]⟩ b2 (by simp) (by omega), Ends.mk [] [(1000, 1000)] (by simp [bsl, packet_v, chunk_v]; exact ⟨rfl, rfl, rfl⟩)⟩
      simp [z0]
      refine goTest_dec (fun z1 => ?_) (fun z1 => ?_)
      · simp [z1]
        refine goPick (n := 200) rfl (by omega) (by omega) fun r3 h3 => ?_
        simp
        exact ⟨_, _, .mk ⟨_, _, _, [c]⟩ (b + 1 + 1) (by simp) (by omega), Ends.mk [] [(1000, 1000)] (by simp [bsl, packet_v, chunk_v]; exact ⟨rfl, rfl, rfl⟩)⟩
      simp [z1]
      refine goTest_dec (fun z2 => ?_) (fun z2 => ?_)
      · simp [z2]
        obtain ⟨_, _, ⟨p, b2, hp, _, hb2⟩, f2⟩ := l91Packet_ok src (b + 1) (by omega)
        simp only [packet_v] at f2
        refine goCall_gen [] [(1000, 1000)] [] [] none f2 (by simp [bsl]) ?_
        simp [bsl]
        exact ⟨_, _, .mk p b2 hp (by omega), Ends.mk [] [(1000, 1000)] (by simp [bsl, packet_v])⟩
      simp [z2]
      exact ⟨_, _, .mk ⟨_, _, _, [c]⟩ (b + 1) (by simp) (by omega), Ends.mk [] [(1000, 1000)] (by simp [bsl, packet_v, chunk_v]; exact ⟨rfl, rfl, rfl⟩)⟩

/-- An association and a packet that were drawn. -/
inductive ApR : V → List (List V) → Prop
  | mk (x : Assoc) (p : Packet) (hx : x.dr) (hp : p.chunks.length ≤ 9) : ApR (.tup [x.v, p.v]) []

theorem DrawAssocStep_ok (code : List UInt8) : ∃ x p, Assoc.dr x ∧ p.chunks.length ≤ 9 ∧ Fn Tryz.prog fn_spec_DrawAssocStep [bsl code] [] (.tup [x.v, Packet.v p]) [] := by
  obtain ⟨src, ho⟩ : ∃ s, Fn Tryz.prog fn_spec_l6Open [bsl code] [] (.ptr 1000 0) [[bsl s, .int .i64 0]] := ⟨_, open_ok code⟩
  suffices h : ∃ R bo, ApR R bo ∧ Fn Tryz.prog fn_spec_DrawAssocStep [bsl code] [] R bo by
    obtain ⟨_, _, ⟨x, p, h1, h2⟩, f⟩ := h
    exact ⟨x, p, h1, h2, f⟩
  refine Fx.of_go ln_spec_DrawAssocStep rfl ?_
  simp only [bsl] at ho
  simp [ac_spec_DrawAssocStep, bsl]
  refine goCall_gen [] [] [] [] (some 1000) ho (by simp [bsl]) ?_
  simp [bsl]
  refine goAssoc rfl (by omega) fun x b hx hb => ?_
  simp [assoc_v]
  refine goPick (n := 12) rfl (by omega) (by omega) fun r1 h1 => ?_
  simp
  refine goTest_dec (fun q => ?_) (fun q => ?_)
  · simp
    obtain ⟨_, _, ⟨y, b2, hy, hb2⟩, f1⟩ := l92Wrong_ok src (b + 1) (by omega)
    obtain ⟨_, _, ⟨p, b3, hp, hb3⟩, f2⟩ := l92Packet_ok src b2 y (by omega) hy
    simp only [assoc_v, packet_v] at f1 f2
    refine goCall_gen [] [(1000, 7)] [] [] none f1 (by simp [bsl]) ?_
    simp [bsl]
    refine goDCall_gen [] [(1000, 7)] [] [] none f2 (by simp [bsl]) (by simp [bsl]) ?_
    simp [bsl]
    exact ⟨_, _, ⟨y, p, hy, hp⟩, Ends.mk [] [] (by simp [assoc_v, packet_v])⟩
  · simp
    obtain ⟨_, _, ⟨p, b3, hp, hb3⟩, f2⟩ := l92Packet_ok src (b + 1) x (by omega) hx
    simp only [assoc_v, packet_v] at f2
    refine goDCall_gen [] [(1000, 7)] [] [] none f2 (by simp [bsl]) (by simp [bsl]) ?_
    simp [bsl]
    exact ⟨_, _, ⟨x, p, hx, hp⟩, Ends.mk [] [] (by simp [assoc_v, packet_v])⟩
end

section
set_option maxRecDepth 200000
set_option maxHeartbeats 4000000
attribute [-simp] List.getD_eq_getElem?_getD

theorem sameInts_ok (a b : List Int) (ha : a.length ≤ 1000000000000) : Fn Tryz.prog fn_laws_sameInts [isl a, isl b] [] (.bool (decide (a = b))) [] := by
  refine Fn.of_go ln_laws_sameInts rfl ?_
  simp [ac_laws_sameInts, isl]
  refine goTest_dec (fun hl => ?_) (fun hl => ?_)
  rotate_left
  · simp [hl]
    exact Ends.mk [] [] (by simp [show a ≠ b from fun e => hl (by rw [e])])
  simp [hl]
  refine go_loop (fun i => { env := [(0, isl a), (1, isl b), (5, .int .i64 (i : Nat))], loc := [], box := [], stat := [] }) (fun i => i ≤ a.length ∧ ∀ k, k < i → nth a k = nth b k) (fun i => a.length - i) 0 ⟨by omega, fun k hk => by omega⟩ (Weak.of [] [] (by simp [isl])) ?_
  rintro i ⟨hi, hp⟩
  simp [isl, hl]
  refine goTest_dec (fun hlt => ?_) (fun hge => ?_)
  · have hlt1 : i < a.length := by omega
    have hlt2 : i < b.length := by omega
    simp [hlt, hlt1, hlt2, iV]
    by_cases h1 : nth a i = nth b i
    · simp [h1]
      exact ⟨by omega, .mk (i + 1) ⟨by omega, nth_all hp h1⟩ (by omega) (Weak.of [] [] (by simp [isl]))⟩
    · simp [h1]
      exact Ends.mk [] [] (by simp [show a ≠ b from fun e => h1 (by rw [e])])
  · obtain rfl : i = a.length := by omega
    simp [hl]
    exact Ends.mk [] [] (by simp [nth_ext hl hp])

theorem sameParts_ok (a b : List Part) (ha : a.length ≤ 1000000000000) : Fn Tryz.prog fn_laws_sameParts [psl a, psl b] [] (.bool (decide (a = b))) [] := by
  refine Fn.of_go ln_laws_sameParts rfl ?_
  simp [ac_laws_sameParts, psl]
  refine goTest_dec (fun hl => ?_) (fun hl => ?_)
  rotate_left
  · simp [hl]
    exact Ends.mk [] [] (by simp [show a ≠ b from fun e => hl (by rw [e])])
  simp [hl]
  refine go_loop (fun i => { env := [(0, psl a), (1, psl b), (5, .int .i64 (i : Nat))], loc := [], box := [], stat := [] }) (fun i => i ≤ a.length ∧ ∀ k, k < i → nth a k = nth b k) (fun i => a.length - i) 0 ⟨by omega, fun k hk => by omega⟩ (Weak.of [] [] (by simp [psl])) ?_
  rintro i ⟨hi, hp⟩
  simp [psl, hl]
  refine goTest_dec (fun hlt => ?_) (fun hge => ?_)
  · have hlt1 : i < a.length := by omega
    have hlt2 : i < b.length := by omega
    have hne := part_ne (nth a i) (nth b i)
    simp [hlt, hlt1, hlt2, pt_v]
    simp only [hne]
    by_cases h1 : nth a i = nth b i
    · simp [h1]
      exact ⟨by omega, .mk (i + 1) ⟨by omega, nth_all hp h1⟩ (by omega) (Weak.of [] [] (by simp [psl]))⟩
    · simp [h1]
      exact Ends.mk [] [] (by simp [show a ≠ b from fun e => h1 (by rw [e])])
  · obtain rfl : i = a.length := by omega
    simp [hl]
    exact Ends.mk [] [] (by simp [nth_ext hl hp])

theorem side_eq (a b : Side) : decide (a = b) = (decide (a.tag = b.tag) && (decide (a.streams = b.streams) && (decide (a.first = b.first) && (decide (a.acked = b.acked) && decide (a.sent = b.sent))))) := by
  rw [Bool.eq_iff_iff]
  cases a; cases b
  simp
  exact fun _ _ _ => and_comm

theorem sameSide_ok (a b : Side) (ha : a.sent.length ≤ 1000000000000) : Fn Tryz.prog fn_laws_sameSide [a.v, b.v] [] (.bool (decide (a = b))) [] := by
  refine Fn.of_go ln_laws_sameSide rfl ?_
  have f1 := sameParts_ok a.sent b.sent ha
  simp only [psl] at f1
  have e := side_eq a b
  simp [ac_laws_sameSide, side_v]
  repeat' (first
    | (refine goTest_dec (fun q => ?_) (fun q => ?_) <;> simp [q])
    | (refine goCall_eq f1 (by simp) ?_; simp)
    | (refine Ends.mk [] [] ?_; rw [e]; simp [*] <;> fail))

theorem assoc_eq (a b : Assoc) : decide (a = b) = (decide (a.src = b.src) && (decide (a.dst = b.dst) && (decide (a.state = b.state) && ((a.byB == b.byB) && (decide (a.a = b.a) && decide (a.b = b.b)))))) := by
  rw [Bool.eq_iff_iff]
  cases a; cases b
  simp

theorem sameAssoc_ok (a b : Assoc) (ha : a.a.sent.length ≤ 1000000000000) (hb : a.b.sent.length ≤ 1000000000000) : Fn Tryz.prog fn_laws_sameAssoc [a.v, b.v] [] (.bool (decide (a = b))) [] := by
  refine Fn.of_go ln_laws_sameAssoc rfl ?_
  have f1 := sameSide_ok a.a b.a ha
  have f2 := sameSide_ok a.b b.b hb
  simp only [side_v] at f1 f2
  have e := assoc_eq a b
  cases hw1 : a.byB <;> cases hw2 : b.byB
  all_goals
    rw [hw1, hw2] at e
    simp [ac_laws_sameAssoc, assoc_v, hw1, hw2]
    repeat' (first
      | (refine goTest_dec (fun q => ?_) (fun q => ?_) <;> simp [q])
      | (refine goCall_eq f1 (by simp) ?_; simp)
      | (refine goCall_eq f2 (by simp) ?_; simp)
      | (refine Ends.mk [] [] ?_; rw [e]; simp [*] <;> fail))

theorem one_ok (l : List Int) (n : Int) : Fn Tryz.prog fn_laws_one [isl l, .int .i64 n] [] (.bool (decide (l = [n]))) [] := by
  refine Fn.of_go ln_laws_one rfl ?_
  simp [ac_laws_one, isl]
  by_cases h : l.length = 1
  · obtain ⟨x, rfl⟩ := List.length_eq_one_iff.1 h
    simp [iV]
    exact Ends.mk [] [] (by simp)
  · have h2 : ¬ (l.length : Int) = 1 := by omega
    have h3 : ¬ l = [n] := by rintro rfl; exact h rfl
    simp [h, h2]
    exact Ends.mk [] [] (by simp [h3])

/-- The side that sends a packet, and the other one. -/
def restS (x : Assoc) (p : Packet) : Side × Side := if p.src = x.src ∧ p.dst = x.dst then (x.a, x.b) else (x.b, x.a)
theorem rest_ok (x : Assoc) (p : Packet) : Fn Tryz.prog fn_laws_rest [x.v, p.v] [] (.tup [(restS x p).1.v, (restS x p).2.v]) [] := by
  refine Fn.of_go ln_laws_rest rfl ?_
  simp [ac_laws_rest, assoc_v, packet_v]
  repeat' (first
    | (refine goTest_dec (fun q => ?_) (fun q => ?_) <;> simp [q])
    | (refine Ends.mk [] [] ?_; simp [restS, side_v, *] <;> fail))

theorem rest_side {x : Assoc} {p : Packet} (h : mineS x p = true) : restS x p = (x.side (byBS x p), x.other (byBS x p)) := by
  obtain ⟨h1, h2, h3⟩ := mine_iff.1 h
  have hne := ((assoc_iff x).1 h1).2.2.1
  by_cases q : p.src = x.src ∧ p.dst = x.dst
  · have e : byBS x p = false := by simp [byBS]; intro a; omega
    rw [e]; simp [restS, q, Assoc.side, Assoc.other]
  · have e : byBS x p = true := by
      simp only [byBS, decide_eq_true_eq]
      rcases h3 with h3 | h3
      · exact h3
      · exact absurd h3 q
    rw [e]; simp only [restS, if_neg q, Assoc.side, Assoc.other, if_true]
theorem rest_step {x : Assoc} {p : Packet} (h : mineS x p = true) : restS (stepS x p).1 p = ((stepS x p).1.side (byBS x p), (stepS x p).1.other (byBS x p)) := by
  obtain ⟨k1, k2⟩ := step_mine h
  rw [rest_side k1, k2]

theorem hasInt_false {l : List Int} {n : Int} (h : ∀ k, k < l.length → nth l k ≠ n) : n ∉ l := by
  intro hm
  obtain ⟨i, hi, e⟩ := List.getElem_of_mem hm
  exact h i hi (by rw [nth_eq hi]; exact e)
theorem hasInt_ok (l : List Int) (n : Int) (hl : l.length ≤ 1000000000) : Fn Tryz.prog fn_laws_hasInt [isl l, .int .i64 n] [] (.bool (decide (n ∈ l))) [] := by
  refine Fn.of_go ln_laws_hasInt rfl ?_
  simp [ac_laws_hasInt, isl]
  refine go_loop (fun i => { env := [(0, isl l), (1, .int .i64 n), (5, .int .i64 (i : Nat))], loc := [], box := [], stat := [] }) (fun i => i ≤ l.length ∧ ∀ k, k < i → nth l k ≠ n) (fun i => l.length - i) 0 ⟨by omega, fun k hk => by omega⟩ (Weak.of [] [] (by simp [isl])) ?_
  rintro i ⟨hi, hp⟩
  simp [isl]
  refine goTest_dec (fun hlt => ?_) (fun hge => ?_)
  · simp [hlt, iV]
    refine goTest_dec (fun h1 => ?_) (fun h1 => ?_)
    · have : n ∈ l := by rw [← h1]; exact nth_mem hlt
      simp
      exact Ends.mk [] [] (by simp [this])
    · simp
      refine ⟨by omega, .mk (i + 1) ⟨by omega, fun k hk => ?_⟩ (by omega) (Weak.of [] [] (by simp [isl]))⟩
      rcases Nat.lt_succ_iff_lt_or_eq.1 hk with h | rfl
      · exact hp k h
      · exact h1
  · obtain rfl : i = l.length := by omega
    simp
    exact Ends.mk [] [] (by simp [hasInt_false hp])

theorem from_v (x : Assoc) (byB : Bool) (c : Chunk) : (fromS x byB c).v = .agg (if byB then [.int .i64 x.dst, .int .i64 x.src, .int .i64 x.a.tag, .sl none 3 [c.v]] else [.int .i64 x.src, .int .i64 x.dst, .int .i64 x.b.tag, .sl none 3 [c.v]]) := by cases byB <;> rfl
theorem from_ok (x : Assoc) (byB : Bool) (c : Chunk) : Fn Tryz.prog fn_laws_from [x.v, .bool byB, c.v] [] (fromS x byB c).v [] := by
  refine Fn.of_go ln_laws_from rfl ?_
  cases byB
  · simp [ac_laws_from, assoc_v, chunk_v, from_v]
    exact Ends.mk [] [] (by simp)
  · simp [ac_laws_from, assoc_v, chunk_v, from_v]
    exact Ends.mk [] [] (by simp)
end

section
set_option maxRecDepth 200000
set_option maxHeartbeats 8000000
attribute [-simp] List.getD_eq_getElem?_getD

theorem sameInts_self (l : List Int) (h : l.length ≤ 1000) : Fn Tryz.prog fn_laws_sameInts [isl l, isl l] [] (.bool true) [] := by
  have := sameInts_ok l l (by omega)
  simpa using this
theorem sameAssoc_self (x : Assoc) (h : x.bd) : Fn Tryz.prog fn_laws_sameAssoc [x.v, x.v] [] (.bool true) [] := by
  have := sameAssoc_ok x x (by have := h.1.2; omega) (by have := h.2.2; omega)
  simpa using this
theorem opt_getS (o : Option Chunk) {c : Chunk} (h : o = some c) : optV zChunk.v Chunk.v o = .tup [c.v, .bool true] := by rw [h]; rfl

theorem srcN {x : Assoc} {p : Packet} (h : decide ((stepS x p).1.src = 0) = false) : mineS x p = true := mine_of_src (of_decide_eq_false h)
end

section
open Go.ChangeShapes Go.WideShapes Go.ChangeAt Go.RowKit

/-- At the start nobody owns anything. -/
def γ0 : Ghost := ⟨fun _ => none, fun _ => none, fun _ => none, fun _ => False⟩

theorem hinv0 (w : World) : HInv (.ofGhost w γ0) (boxesOf []) [] γ0 w :=
  ⟨fun d cs hl => by simp [boxesOf, boxesFrom, lookB] at hl, ⟨fun d g hg => by simp [γ0] at hg, fun d g hg => by simp [Ctx.ofGhost, γ0] at hg⟩,
    fun σ top sz hs => by simp [lookS] at hs, fun g x hg => by simp [γ0] at hg, ⟨rfl, fun g hg => hg.elim⟩, ⟨rfl, rfl, rfl, Nat.le_refl _, fun _ _ _ => rfl⟩⟩

/-- A contract that asks for no variables, at the start. -/
theorem Fn.calls {P : Program} {f : FuncId} {args : List V} {R : V} (hf : Fn P f args [] R []) (hargs : argStat args [] = []) (w : World) (vs : List Value) (hT : Tb (γ0.un w) w) (hc : CellsRel [] γ0 w args vs) :
    Calls P f vs.toArray w fun e w' => ∃ v γ', e = .returned v ∧ VRel (resStat R []) γ' w' R v ∧ Below w.heap.size w w' := by
  have h1 : HInv (.ofGhost w γ0) (boxesOf []) (argStat args []) γ0 w := by rw [hargs]; exact hinv0 w
  refine (hf w γ0 vs hT h1 (by rw [hargs]; exact hc)).mono fun e w' hex => ?_
  obtain ⟨v, γ', rfl, hH, hv⟩ := hex
  exact ⟨v, γ', rfl, hv, hH.frame.os, hH.frame.tape, hH.frame.output, hH.frame.size, fun g hg => hH.frame.same g hg (by simp [Ctx.ofGhost, γ0])⟩

theorem Fn.calls_true {P : Program} {f : FuncId} {args : List V} (hf : Fn P f args [] (.bool true) []) (hargs : argStat args [] = []) (w : World) (vs : List Value) (hT : Tb (γ0.un w) w) (hc : CellsRel [] γ0 w args vs) :
    Calls P f vs.toArray w fun e w' => e = .returned (.bool true) ∧ Below w.heap.size w w' := by
  refine (hf.calls hargs w vs hT hc).mono fun e w' hex => ?_
  obtain ⟨v, γ', rfl, hv, hb⟩ := hex
  refine ⟨?_, hb⟩
  cases hv with
  | base h => cases h with
    | bool b => rfl

theorem rel_one {w : World} {x : V} {v : Value} (h : VRel [] γ0 w x v) : CellsRel [] γ0 w [x] [v] :=
  ⟨rfl, fun k h1 h2 => by match k with | 0 => exact h⟩

theorem rel_two {w : World} {x y : V} {v u : Value} (h : VRel [] γ0 w x v) (h' : VRel [] γ0 w y u) : CellsRel [] γ0 w [x, y] [v, u] :=
  ⟨rfl, fun k h1 h2 => by match k with | 0 => exact h | 1 => exact h'⟩

theorem rel_str {w : World} (s : ByteArray) : VRel [] γ0 w (.str s.data.toList) (.string s) := .base (.str _ _ rfl)

theorem flat_bytes : ∀ l : List UInt8, flat (l.map byteV) = l.map byteV
  | [] => rfl
  | z :: r => by
    have := flat_bytes r
    unfold flat at this ⊢
    rw [List.map_cons, List.flatMap_cons, this]
    rfl

/-- A slice of bytes that is read. -/
theorem rel_bytes {P : Program} {W : World} {base t e : Nat} {v : Value} (ht : P.underlying t = some (.slice e)) (hval : Value.okWide P W .any base t v)
    (h : v = .slice none 0 0 ∨ ∃ (a : Addr) (len cap : Nat) (zs : List Int), v = .slice (some a) len cap ∧ len ≤ cap ∧ cap ≤ maxLen ∧ len ≤ zs.length ∧
      (∀ i, i < zs.length → W.cell? (a.add i) = some (.int .u8 (zs.getD i 0))) ∧ ∀ n ∈ zs, (Lit.int .u8 n).wf = true) :
    ∃ l, VRel [] γ0 W (bsl l) v := by
  rcases h with rfl | ⟨a, len, cap, zs, rfl, hl, hm, hz, hcell, hwz⟩
  · exact ⟨[], .base (.slnil 1)⟩
  · have hh : W.has P .any base a e cap := by
      simp only [Value.okWide, ht, Cell.okWide, Cell.ok] at hval
      exact hval.2.2
    obtain ⟨_, hsp, row, cells, hsh, _⟩ := hh
    obtain ⟨b, off, spot⟩ := a
    simp only at hsp
    subst hsp
    have hblk : ∃ c e fr, W.heap[b]? = some (.cells c e fr) := by
      simp only [World.shape?] at hsh
      cases hb : W.heap[b]? with
      | none => rw [hb] at hsh; simp at hsh
      | some o =>
        rw [hb] at hsh
        cases o with
        | cells c e fr => exact ⟨c, e, fr, rfl⟩
        | _ => simp at hsh
    obtain ⟨c, e', fr, hg⟩ := hblk
    have hr : ∀ n ∈ zs, 0 ≤ n ∧ n ≤ 255 := fun n hn => by
      have := hwz n hn
      simpa [Lit.wf, IntKind.min, IntKind.max, IntKind.signed, IntKind.bits] using this
    obtain ⟨l, hll, hbv⟩ : ∃ l : List UInt8, l.length = len ∧ ∀ i (h : i < l.length), W.cell? ⟨b, off + i, none⟩ = some (.int .u8 (l[i].toNat : Int)) := by
      refine ⟨(zs.take len).map (fun z => UInt8.ofNat z.toNat), by simp; omega, fun i hi => ?_⟩
      have hi2 : i < zs.length := by simp at hi; omega
      have h1 := hcell i hi2
      have e1 : zs.getD i 0 = zs[i] := by rw [List.getD_eq_getElem?_getD, List.getElem?_eq_getElem hi2]; rfl
      obtain ⟨h2, h3⟩ := hr _ (List.getElem_mem hi2)
      rw [e1] at h1
      have e2 : ((zs.take len).map (fun z => UInt8.ofNat z.toNat))[i] = UInt8.ofNat zs[i].toNat := by simp
      rw [e2, UInt8.toNat_ofNat_of_lt' (by simp [UInt8.size]; omega), Int.toNat_of_nonneg h2]
      have e3 : Addr.add ⟨b, off, none⟩ i = ⟨b, off + i, none⟩ := by unfold Addr.add; split <;> simp_all
      rw [← e3]; exact h1
    have hfl : flat (l.map byteV) = l.map byteV := flat_bytes l
    have key := PRel.sl (O := γ0.O) (w := W) 1 (l.map byteV) b off cap c e' fr (l.map fun z => Value.int .u8 (z.toNat : Int)) hg (by simp [Ghost.O, γ0]) (by simpa [hll] using hl) hm
      (fun x hx => by
        obtain ⟨u, _, rfl⟩ := List.mem_map.1 hx
        rfl) (by rw [hfl]; simp) (fun k hk => ?_) (fun u hu => ?_) (fun k h1 h2 => ?_)
    · have e2 : (l.map byteV).length = len := by simpa using hll
      rw [e2] at key
      exact ⟨l, .base key⟩
    · have hk2 : k < l.length := by simpa using hk
      have h1 := hbv k hk2
      simp only [World.cell?, hg] at h1
      rw [List.getElem?_map, List.getElem?_eq_getElem hk2]
      simpa using h1
    · obtain ⟨z, _, rfl⟩ := List.mem_map.1 hu
      rfl
    · simp only [hfl, List.getElem_map, byteV]
      exact .int _ _

/-- An argument of bytes. -/
theorem open_bytes {H : Type} {enc : TypeId × Value → H} {P : Program} {W : World} {base t e : Nat} {v : Value} {d : DataW H} {ps : List MemPlace} (ht : P.underlying t = some (.slice e)) (he : P.underlying e = some (.int .u8)) (hc : P.cellsOf e = 1)
    (hval : Value.okWide P W .any base t v) (h0 : DataW.Trod enc P W 0 (fun _ => true) true t v d ps) : ∃ l, VRel [] γ0 W (bsl l) v := by
  obtain ⟨fuel, hf⟩ := h0
  refine rel_bytes ht hval ?_
  obtain ⟨a0, len, cap, rfl⟩ := okWide_slice ht hval
  rcases open_ints ht he hc hf with ⟨hcs, hx⟩ | ⟨a, len', cap', zs, hcs, _, hl, hm, hz, hx, hcell, hwz⟩
  · simp [Value.cells] at hcs
    obtain ⟨rfl, rfl, rfl⟩ := hcs
    exact .inl rfl
  · simp [Value.cells] at hcs
    obtain ⟨rfl, rfl, rfl⟩ := hcs
    simp only [if_true] at hz
    exact .inr ⟨a, len, cap, zs, rfl, hl, hm, by omega, hcell, hwz⟩
end

section
open Go.ChangeShapes Go.WideShapes Go.ChangeAt Go.RowKit

theorem tabsW (W : World) (hsh : W.ShapedOpen Tryz.prog) : Tb (γ0.un W) W := by
  constructor
end

section
set_option maxRecDepth 100000
open Go.RowKit

theorem initText : Tryz.prog.initOrder = "harness 5b7199fa7e302a39410936f1302b7d5e479f4d3855057325f99c7a5d71206541 cut at loop.example/capturemonitor/laws.FnStep loop.example/capturemonitor/laws.FnStepBroken loop.example/capturemonitor/laws.FnStepPorts loop.example/capturemonitor/laws.FnStepState loop.example/capturemonitor/laws.FnStepTwice loop.example/capturemonitor/laws.FnStepTag loop.example/capturemonitor/laws.FnStepAcked loop.example/capturemonitor/laws.FnStepSent loop.example/capturemonitor/laws.FnStepAlone loop.example/capturemonitor/laws.FnStepOver loop.example/capturemonitor/laws.FnStepShut loop.example/capturemonitor/laws.FnStepSaid loop.example/capturemonitor/laws.FnStepAgain loop.example/capturemonitor/laws.FnStepData loop.example/capturemonitor/laws.FnStepSsn loop.example/capturemonitor/laws.FnStepTsn" := by kernel_rfl
theorem initSigns : Tryz.prog.initOrder = String.ofList [Char.ofNat 104, Char.ofNat 97, Char.ofNat 114, Char.ofNat 110, Char.ofNat 101, Char.ofNat 115, Char.ofNat 115, Char.ofNat 32, Char.ofNat 53, Char.ofNat 98, Char.ofNat 55, Char.ofNat 49, Char.ofNat 57, Char.ofNat 57, Char.ofNat 102, Char.ofNat 97, Char.ofNat 55, Char.ofNat 101, Char.ofNat 51, Char.ofNat 48, Char.ofNat 50, Char.ofNat 97, Char.ofNat 51, Char.ofNat 57, Char.ofNat 52, Char.ofNat 49, Char.ofNat 48, Char.ofNat 57, Char.ofNat 51, Char.ofNat 54, Char.ofNat 102, Char.ofNat 49, Char.ofNat 51, Char.ofNat 48, Char.ofNat 50, Char.ofNat 98, Char.ofNat 55, Char.ofNat 100, Char.ofNat 53, Char.ofNat 101, Char.ofNat 52, Char.ofNat 55, Char.ofNat 57, Char.ofNat 102, Char.ofNat 52, Char.ofNat 100, Char.ofNat 51, Char.ofNat 56, Char.ofNat 53, Char.ofNat 53, Char.ofNat 48, Char.ofNat 53, Char.ofNat 55, Char.ofNat 51, Char.ofNat 50, Char.ofNat 53, Char.ofNat 102, Char.ofNat 57, Char.ofNat 57, Char.ofNat 99, Char.ofNat 55, Char.ofNat 97, Char.ofNat 53, Char.ofNat 100, Char.ofNat 55, Char.ofNat 49, Char.ofNat 50, Char.ofNat 48, Char.ofNat 54, Char.ofNat 53, Char.ofNat 52, Char.ofNat 49, Char.ofNat 32, Char.ofNat 99, Char.ofNat 117, Char.ofNat 116, Char.ofNat 32, Char.ofNat 97, Char.ofNat 116, Char.ofNat 32, Char.ofNat 108, Char.ofNat 111, Char.ofNat 111, Char.ofNat 112, Char.ofNat 46, Char.ofNat 101, Char.ofNat 120, Char.ofNat 97, Char.ofNat 109, Char.ofNat 112, Char.ofNat 108, Char.ofNat 101, Char.ofNat 47, Char.ofNat 99, Char.ofNat 97, Char.ofNat 112, Char.ofNat 116, Char.ofNat 117, Char.ofNat 114, Char.ofNat 101, Char.ofNat 109, Char.ofNat 111, Char.ofNat 110, Char.ofNat 105, Char.ofNat 116, Char.ofNat 111, Char.ofNat 114, Char.ofNat 47, Char.ofNat 108, Char.ofNat 97, Char.ofNat 119, Char.ofNat 115, Char.ofNat 46, Char.ofNat 70, Char.ofNat 110, Char.ofNat 83, Char.ofNat 116, Char.ofNat 101, Char.ofNat 112, Char.ofNat 32, Char.ofNat 108, Char.ofNat 111, Char.ofNat 111, Char.ofNat 112, Char.ofNat 46, Char.ofNat 101, Char.ofNat 120, Char.ofNat 97, Char.ofNat 109, Char.ofNat 112, Char.ofNat 108, Char.ofNat 101, Char.ofNat 47, Char.ofNat 99, Char.ofNat 97, Char.ofNat 112, Char.ofNat 116, Char.ofNat 117, Char.ofNat 114, Char.ofNat 101, Char.ofNat 109, Char.ofNat 111, Char.ofNat 110, Char.ofNat 105, Char.ofNat 116, Char.ofNat 111, Char.ofNat 114, Char.ofNat 47, Char.ofNat 108, Char.ofNat 97, Char.ofNat 119, Char.ofNat 115, Char.ofNat 46, Char.ofNat 70, Char.ofNat 110, Char.ofNat 83, Char.ofNat 116, Char.ofNat 101, Char.ofNat 112, Char.ofNat 66, Char.ofNat 114, Char.ofNat 111, Char.ofNat 107, Char.ofNat 101, Char.ofNat 110, Char.ofNat 32, Char.ofNat 108, Char.ofNat 111, Char.ofNat 111, Char.ofNat 112, Char.ofNat 46, Char.ofNat 101, Char.ofNat 120, Char.ofNat 97, Char.ofNat 109, Char.ofNat 112, Char.ofNat 108, Char.ofNat 101, Char.ofNat 47, Char.ofNat 99, Char.ofNat 97, Char.ofNat 112, Char.ofNat 116, Char.ofNat 117, Char.ofNat 114, Char.ofNat 101, Char.ofNat 109, Char.ofNat 111, Char.ofNat 110, Char.ofNat 105, Char.ofNat 116, Char.ofNat 111, Char.ofNat 114, Char.ofNat 47, Char.ofNat 108, Char.ofNat 97, Char.ofNat 119, Char.ofNat 115, Char.ofNat 46, Char.ofNat 70, Char.ofNat 110, Char.ofNat 83, Char.ofNat 116, Char.ofNat 101, Char.ofNat 112, Char.ofNat 80, Char.ofNat 111, Char.ofNat 114, Char.ofNat 116, Char.ofNat 115, Char.ofNat 32, Char.ofNat 108, Char.ofNat 111, Char.ofNat 111, Char.ofNat 112, Char.ofNat 46, Char.ofNat 101, Char.ofNat 120, Char.ofNat 97, Char.ofNat 109, Char.ofNat 112, Char.ofNat 108, Char.ofNat 101, Char.ofNat 47, Char.ofNat 99, Char.ofNat 97, Char.ofNat 112, Char.ofNat 116, Char.ofNat 117, Char.ofNat 114, Char.ofNat 101, Char.ofNat 109, Char.ofNat 111, Char.ofNat 110, Char.ofNat 105, Char.ofNat 116, Char.ofNat 111, Char.ofNat 114, Char.ofNat 47, Char.ofNat 108, Char.ofNat 97, Char.ofNat 119, Char.ofNat 115, Char.ofNat 46, Char.ofNat 70, Char.ofNat 110, Char.ofNat 83, Char.ofNat 116, Char.ofNat 101, Char.ofNat 112, Char.ofNat 83, Char.ofNat 116, Char.ofNat 97, Char.ofNat 116, Char.ofNat 101, Char.ofNat 32, Char.ofNat 108, Char.ofNat 111, Char.ofNat 111, Char.ofNat 112, Char.ofNat 46, Char.ofNat 101, Char.ofNat 120, Char.ofNat 97, Char.ofNat 109, Char.ofNat 112, Char.ofNat 108, Char.ofNat 101, Char.ofNat 47, Char.ofNat 99, Char.ofNat 97, Char.ofNat 112, Char.ofNat 116, Char.ofNat 117, Char.ofNat 114, Char.ofNat 101, Char.ofNat 109, Char.ofNat 111, Char.ofNat 110, Char.ofNat 105, Char.ofNat 116, Char.ofNat 111, Char.ofNat 114, Char.ofNat 47, Char.ofNat 108, Char.ofNat 97, Char.ofNat 119, Char.ofNat 115, Char.ofNat 46, Char.ofNat 70, Char.ofNat 110, Char.ofNat 83, Char.ofNat 116, Char.ofNat 101, Char.ofNat 112, Char.ofNat 84, Char.ofNat 119, Char.ofNat 105, Char.ofNat 99, Char.ofNat 101, Char.ofNat 32, Char.ofNat 108, Char.ofNat 111, Char.ofNat 111, Char.ofNat 112, Char.ofNat 46, Char.ofNat 101, Char.ofNat 120, Char.ofNat 97, Char.ofNat 109, Char.ofNat 112, Char.ofNat 108, Char.ofNat 101, Char.ofNat 47, Char.ofNat 99, Char.ofNat 97, Char.ofNat 112, Char.ofNat 116, Char.ofNat 117, Char.ofNat 114, Char.ofNat 101, Char.ofNat 109, Char.ofNat 111, Char.ofNat 110, Char.ofNat 105, Char.ofNat 116, Char.ofNat 111, Char.ofNat 114, Char.ofNat 47, Char.ofNat 108, Char.ofNat 97, Char.ofNat 119, Char.ofNat 115, Char.ofNat 46, Char.ofNat 70, Char.ofNat 110, Char.ofNat 83, Char.ofNat 116, Char.ofNat 101, Char.ofNat 112, Char.ofNat 84, Char.ofNat 97, Char.ofNat 103, Char.ofNat 32, Char.ofNat 108, Char.ofNat 111, Char.ofNat 111, Char.ofNat 112, Char.ofNat 46, Char.ofNat 101, Char.ofNat 120, Char.ofNat 97, Char.ofNat 109, Char.ofNat 112, Char.ofNat 108, Char.ofNat 101, Char.ofNat 47, Char.ofNat 99, Char.ofNat 97, Char.ofNat 112, Char.ofNat 116, Char.ofNat 117, Char.ofNat 114, Char.ofNat 101, Char.ofNat 109, Char.ofNat 111, Char.ofNat 110, Char.ofNat 105, Char.ofNat 116, Char.ofNat 111, Char.ofNat 114, Char.ofNat 47, Char.ofNat 108, Char.ofNat 97, Char.ofNat 119, Char.ofNat 115, Char.ofNat 46, Char.ofNat 70, Char.ofNat 110, Char.ofNat 83, Char.ofNat 116, Char.ofNat 101, Char.ofNat 112, Char.ofNat 65, Char.ofNat 99, Char.ofNat 107, Char.ofNat 101, Char.ofNat 100, Char.ofNat 32, Char.ofNat 108, Char.ofNat 111, Char.ofNat 111, Char.ofNat 112, Char.ofNat 46, Char.ofNat 101, Char.ofNat 120, Char.ofNat 97, Char.ofNat 109, Char.ofNat 112, Char.ofNat 108, Char.ofNat 101, Char.ofNat 47, Char.ofNat 99, Char.ofNat 97, Char.ofNat 112, Char.ofNat 116, Char.ofNat 117, Char.ofNat 114, Char.ofNat 101, Char.ofNat 109, Char.ofNat 111, Char.ofNat 110, Char.ofNat 105, Char.ofNat 116, Char.ofNat 111, Char.ofNat 114, Char.ofNat 47, Char.ofNat 108, Char.ofNat 97, Char.ofNat 119, Char.ofNat 115, Char.ofNat 46, Char.ofNat 70, Char.ofNat 110, Char.ofNat 83, Char.ofNat 116, Char.ofNat 101, Char.ofNat 112, Char.ofNat 83, Char.ofNat 101, Char.ofNat 110, Char.ofNat 116, Char.ofNat 32, Char.ofNat 108, Char.ofNat 111, Char.ofNat 111, Char.ofNat 112, Char.ofNat 46, Char.ofNat 101, Char.ofNat 120, Char.ofNat 97, Char.ofNat 109, Char.ofNat 112, Char.ofNat 108, Char.ofNat 101, Char.ofNat 47, Char.ofNat 99, Char.ofNat 97, Char.ofNat 112, Char.ofNat 116, Char.ofNat 117, Char.ofNat 114, Char.ofNat 101, Char.ofNat 109, Char.ofNat 111, Char.ofNat 110, Char.ofNat 105, Char.ofNat 116, Char.ofNat 111, Char.ofNat 114, Char.ofNat 47, Char.ofNat 108, Char.ofNat 97, Char.ofNat 119, Char.ofNat 115, Char.ofNat 46, Char.ofNat 70, Char.ofNat 110, Char.ofNat 83, Char.ofNat 116, Char.ofNat 101, Char.ofNat 112, Char.ofNat 65, Char.ofNat 108, Char.ofNat 111, Char.ofNat 110, Char.ofNat 101, Char.ofNat 32, Char.ofNat 108, Char.ofNat 111, Char.ofNat 111, Char.ofNat 112, Char.ofNat 46, Char.ofNat 101, Char.ofNat 120, Char.ofNat 97, Char.ofNat 109, Char.ofNat 112, Char.ofNat 108, Char.ofNat 101, Char.ofNat 47, Char.ofNat 99, Char.ofNat 97, Char.ofNat 112, Char.ofNat 116, Char.ofNat 117, Char.ofNat 114, Char.ofNat 101, Char.ofNat 109, Char.ofNat 111, Char.ofNat 110, Char.ofNat 105, Char.ofNat 116, Char.ofNat 111, Char.ofNat 114, Char.ofNat 47, Char.ofNat 108, Char.ofNat 97, Char.ofNat 119, Char.ofNat 115, Char.ofNat 46, Char.ofNat 70, Char.ofNat 110, Char.ofNat 83, Char.ofNat 116, Char.ofNat 101, Char.ofNat 112, Char.ofNat 79, Char.ofNat 118, Char.ofNat 101, Char.ofNat 114, Char.ofNat 32, Char.ofNat 108, Char.ofNat 111, Char.ofNat 111, Char.ofNat 112, Char.ofNat 46, Char.ofNat 101, Char.ofNat 120, Char.ofNat 97, Char.ofNat 109, Char.ofNat 112, Char.ofNat 108, Char.ofNat 101, Char.ofNat 47, Char.ofNat 99, Char.ofNat 97, Char.ofNat 112, Char.ofNat 116, Char.ofNat 117, Char.ofNat 114, Char.ofNat 101, Char.ofNat 109, Char.ofNat 111, Char.ofNat 110, Char.ofNat 105, Char.ofNat 116, Char.ofNat 111, Char.ofNat 114, Char.ofNat 47, Char.ofNat 108, Char.ofNat 97, Char.ofNat 119, Char.ofNat 115, Char.ofNat 46, Char.ofNat 70, Char.ofNat 110, Char.ofNat 83, Char.ofNat 116, Char.ofNat 101, Char.ofNat 112, Char.ofNat 83, Char.ofNat 104, Char.ofNat 117, Char.ofNat 116, Char.ofNat 32, Char.ofNat 108, Char.ofNat 111, Char.ofNat 111, Char.ofNat 112, Char.ofNat 46, Char.ofNat 101, Char.ofNat 120, Char.ofNat 97, Char.ofNat 109, Char.ofNat 112, Char.ofNat 108, Char.ofNat 101, Char.ofNat 47, Char.ofNat 99, Char.ofNat 97, Char.ofNat 112, Char.ofNat 116, Char.ofNat 117, Char.ofNat 114, Char.ofNat 101, Char.ofNat 109, Char.ofNat 111, Char.ofNat 110, Char.ofNat 105, Char.ofNat 116, Char.ofNat 111, Char.ofNat 114, Char.ofNat 47, Char.ofNat 108, Char.ofNat 97, Char.ofNat 119, Char.ofNat 115, Char.ofNat 46, Char.ofNat 70, Char.ofNat 110, Char.ofNat 83, Char.ofNat 116, Char.ofNat 101, Char.ofNat 112, Char.ofNat 83, Char.ofNat 97, Char.ofNat 105, Char.ofNat 100, Char.ofNat 32, Char.ofNat 108, Char.ofNat 111, Char.ofNat 111, Char.ofNat 112, Char.ofNat 46, Char.ofNat 101, Char.ofNat 120, Char.ofNat 97, Char.ofNat 109, Char.ofNat 112, Char.ofNat 108, Char.ofNat 101, Char.ofNat 47, Char.ofNat 99, Char.ofNat 97, Char.ofNat 112, Char.ofNat 116, Char.ofNat 117, Char.ofNat 114, Char.ofNat 101, Char.ofNat 109, Char.ofNat 111, Char.ofNat 110, Char.ofNat 105, Char.ofNat 116, Char.ofNat 111, Char.ofNat 114, Char.ofNat 47, Char.ofNat 108, Char.ofNat 97, Char.ofNat 119, Char.ofNat 115, Char.ofNat 46, Char.ofNat 70, Char.ofNat 110, Char.ofNat 83, Char.ofNat 116, Char.ofNat 101, Char.ofNat 112, Char.ofNat 65, Char.ofNat 103, Char.ofNat 97, Char.ofNat 105, Char.ofNat 110, Char.ofNat 32, Char.ofNat 108, Char.ofNat 111, Char.ofNat 111, Char.ofNat 112, Char.ofNat 46, Char.ofNat 101, Char.ofNat 120, Char.ofNat 97, Char.ofNat 109, Char.ofNat 112, Char.ofNat 108, Char.ofNat 101, Char.ofNat 47, Char.ofNat 99, Char.ofNat 97, Char.ofNat 112, Char.ofNat 116, Char.ofNat 117, Char.ofNat 114, Char.ofNat 101, Char.ofNat 109, Char.ofNat 111, Char.ofNat 110, Char.ofNat 105, Char.ofNat 116, Char.ofNat 111, Char.ofNat 114, Char.ofNat 47, Char.ofNat 108, Char.ofNat 97, Char.ofNat 119, Char.ofNat 115, Char.ofNat 46, Char.ofNat 70, Char.ofNat 110, Char.ofNat 83, Char.ofNat 116, Char.ofNat 101, Char.ofNat 112, Char.ofNat 68, Char.ofNat 97, Char.ofNat 116, Char.ofNat 97, Char.ofNat 32, Char.ofNat 108, Char.ofNat 111, Char.ofNat 111, Char.ofNat 112, Char.ofNat 46, Char.ofNat 101, Char.ofNat 120, Char.ofNat 97, Char.ofNat 109, Char.ofNat 112, Char.ofNat 108, Char.ofNat 101, Char.ofNat 47, Char.ofNat 99, Char.ofNat 97, Char.ofNat 112, Char.ofNat 116, Char.ofNat 117, Char.ofNat 114, Char.ofNat 101, Char.ofNat 109, Char.ofNat 111, Char.ofNat 110, Char.ofNat 105, Char.ofNat 116, Char.ofNat 111, Char.ofNat 114, Char.ofNat 47, Char.ofNat 108, Char.ofNat 97, Char.ofNat 119, Char.ofNat 115, Char.ofNat 46, Char.ofNat 70, Char.ofNat 110, Char.ofNat 83, Char.ofNat 116, Char.ofNat 101, Char.ofNat 112, Char.ofNat 83, Char.ofNat 115, Char.ofNat 110, Char.ofNat 32, Char.ofNat 108, Char.ofNat 111, Char.ofNat 111, Char.ofNat 112, Char.ofNat 46, Char.ofNat 101, Char.ofNat 120, Char.ofNat 97, Char.ofNat 109, Char.ofNat 112, Char.ofNat 108, Char.ofNat 101, Char.ofNat 47, Char.ofNat 99, Char.ofNat 97, Char.ofNat 112, Char.ofNat 116, Char.ofNat 117, Char.ofNat 114, Char.ofNat 101, Char.ofNat 109, Char.ofNat 111, Char.ofNat 110, Char.ofNat 105, Char.ofNat 116, Char.ofNat 111, Char.ofNat 114, Char.ofNat 47, Char.ofNat 108, Char.ofNat 97, Char.ofNat 119, Char.ofNat 115, Char.ofNat 46, Char.ofNat 70, Char.ofNat 110, Char.ofNat 83, Char.ofNat 116, Char.ofNat 101, Char.ofNat 112, Char.ofNat 84, Char.ofNat 115, Char.ofNat 110] := initText.trans (by kernel_rfl)
theorem begins : behindMainWord (wordsSigns Tryz.prog.initOrder.toList) = [Char.ofNat 99, Char.ofNat 117, Char.ofNat 116] :: (behindMainWord (wordsSigns Tryz.prog.initOrder.toList)).tail := by
  rw [initSigns, String.toList_ofList]
  kernel_rfl
theorem make_of {P : Program} {r : List (List Char)} (h : behindMainWord (wordsSigns P.initOrder.toList) = [Char.ofNat 99, Char.ofNat 117, Char.ofNat 116] :: r) : P.make = some .cut := by
  unfold Program.make
  rw [h]
  rfl
theorem final_of {P : Program} {r : List (List Char)} (h : behindMainWord (wordsSigns P.initOrder.toList) = [Char.ofNat 99, Char.ofNat 117, Char.ofNat 116] :: r) : P.liftsFinal = false := by
  unfold Program.liftsFinal Program.headLifts
  rw [h]
  rfl
theorem enter_of {P : Program} {r : List (List Char)} (h : behindMainWord (wordsSigns P.initOrder.toList) = [Char.ofNat 99, Char.ofNat 117, Char.ofNat 116] :: r) (h1 : P.laysLater = false) (h2 : P.bearsReflect = false) (h3 : P.doorRows = []) : P.mayEnter = true := by
  have hs : stripLifts liftWords ([Char.ofNat 99, Char.ofNat 117, Char.ofNat 116] :: r) = ([], [Char.ofNat 99, Char.ofNat 117, Char.ofNat 116] :: r) := rfl
  have hd : P.doorFits [] = true := by
    unfold Program.doorFits
    rw [h3]
    rfl
  unfold Program.mayEnter
  rw [h]
  simp only [hs, h1, h2, hd]
  rfl
theorem enters : Tryz.prog.mayEnter = true := enter_of begins (by kernel_rfl) (by kernel_rfl) (by kernel_rfl)
theorem finals : Tryz.prog.liftsFinal = false := final_of begins
theorem makes : Tryz.prog.make = some .cut := make_of begins
end

section
set_option maxRecDepth 200000
set_option maxHeartbeats 8000000
attribute [-simp] List.getD_eq_getElem?_getD

deriving instance DecidableEq, Inhabited for Msg

/-- The text that is open after some parts. -/
def openT : List Part → List UInt8 → List UInt8
  | [], t => t
  | d :: r, t => openT r (keptT d t ++ d.text)

theorem saidF_snoc : ∀ (l : List Part) (d : Part) (t : List UInt8), saidF (l ++ [d]) t = saidF l t ++ (if d.last then [⟨d.stream, d.ssn, d.loose, keptT d (openT l t) ++ d.text⟩] else [])
  | [], d, t => by simp only [List.nil_append, saidF, openT]
  | e :: l, d, t => by
    simp only [List.cons_append, saidF, openT]
    cases e.last
    · simp [saidF_snoc l d]
    · simp [saidF_snoc l d]
theorem openT_snoc : ∀ (l : List Part) (d : Part) (t : List UInt8), openT (l ++ [d]) t = keptT d (openT l t) ++ d.text
  | [], d, t => rfl
  | e :: l, d, t => openT_snoc l d _
theorem saidF_len : ∀ (l : List Part) (t : List UInt8), (saidF l t).length ≤ l.length
  | [], t => Nat.le_refl _
  | d :: l, t => by
    have := saidF_len l (keptT d t ++ d.text)
    simp only [saidF]
    cases d.last
    · simp; omega
    · simp; omega
theorem keptT_len (d : Part) (t : List UInt8) : (keptT d t).length ≤ t.length := by
  unfold keptT; split <;> simp
theorem openT_len : ∀ (l : List Part) (t : List UInt8), (∀ d ∈ l, d.text.length ≤ 20) → (openT l t).length ≤ t.length + 20 * l.length
  | [], t, _ => by simp [openT]
  | d :: l, t, h => by
    have h1 := openT_len l (keptT d t ++ d.text) (fun e he => h e (List.mem_cons_of_mem _ he))
    have h2 := keptT_len d t
    have h3 := h d (List.mem_cons_self ..)
    simp only [openT, List.length_cons]
    rw [List.length_append] at h1
    omega
theorem side_texts {s : Side} (h : s.ok = true) : ∀ d ∈ s.sent, d.text.length ≤ 20 := by
  by_cases ht : s.tag = 0
  · have : s.sent = [] := ((side_zero ht).1 h).2.2.1
    simp [this]
  · have hp := ((side_iff ht).1 h).1
    intro d hd
    obtain ⟨i, hi, e⟩ := List.getElem_of_mem hd
    have := allTo_iff.1 hp i hi
    simp only [partAt, Bool.and_eq_true] at this
    have := (part_facts this.1.1.1).2.2.2.2
    rw [nth_eq hi, e] at this
    exact this

theorem saidIn_ok (l : List Part) (hl : l.length ≤ 1000) (ht : ∀ d ∈ l, d.text.length ≤ 20) : Fn Tryz.prog fn_impl_saidIn [psl l] [] (.sl none 4 ((saidF l []).map mV)) [] := by
  refine Fn.of_go ln_impl_saidIn rfl ?_
  simp [ac_impl_saidIn, psl]
  refine go_loop (fun i : Nat => { env := [(3, .sl (some 0) 4 ((saidF (l.take i) []).map mV)), (4, .str (openT (l.take i) [])), (8, psl l), (9, .int .i64 (l.length : Nat)), (10, .int .i64 (i : Nat))], loc := [], box := [], stat := [(0, some (.own (saidF (l.take i) []).length 4))] }) (fun i => i ≤ l.length) (fun i => l.length - i) 0 (by omega) (Weak.of [(0, some 112, 0, 4)] [] (by simp [psl, saidF, openT])) ?_
  intro i hi
  simp [psl]
  refine goTest_dec (fun hlt => ?_) (fun hge => ?_)
  · have hsn := saidF_snoc (l.take i) (nth l i) []
    have hop := openT_snoc (l.take i) (nth l i) []
    rw [← take_nth hlt] at hsn hop
    have h1 := openT_len (l.take i) [] (fun d hd => ht d (List.mem_of_mem_take hd))
    have h2 := saidF_len (l.take i) []
    have h3 := ht _ (nth_mem hlt)
    have h4 : (l.take i).length = i := by simp; omega
    rw [h4] at h1 h2
    simp only [List.length_nil] at h1
    simp [hlt, pt_v]
    generalize openT (l.take i) [] = t at *
    generalize saidF (l.take i) [] = M at *
    generalize nth l i = d at *
    have hm : mV ⟨d.stream, d.ssn, d.loose, keptT d t ++ d.text⟩ = .agg [.int .i64 d.stream, .int .i64 d.ssn, .bool d.loose, .str (keptT d t ++ d.text)] := rfl
    cases e1 : d.first
    · have ek : keptT d t = t := by unfold keptT; rw [e1]; rfl
      rw [ek] at hsn hop hm
      simp
      refine ⟨by omega, ?_⟩
      cases e2 : d.last
      · rw [e2] at hsn
        simp at hsn
        simp
        exact ⟨by omega, Again.mk (i + 1) hlt (by omega) (Weak.of [(0, some 0, M.length, 4)] [] (by simp [psl, hsn, hop]))⟩
      · rw [e2] at hsn
        simp only [if_true] at hsn
        simp
        exact ⟨by unfold roomOk; omega, by omega, Again.mk (i + 1) hlt (by omega) (Weak.of [(0, some 0, M.length + 1, 4)] [] (by simp [psl, hsn, hop, hm]))⟩
    · have ek : keptT d t = [] := by unfold keptT; rw [e1]; rfl
      rw [ek] at hsn hop hm
      simp only [List.nil_append] at hsn hop hm
      simp
      refine ⟨by omega, ?_⟩
      cases e2 : d.last
      · rw [e2] at hsn
        simp at hsn
        simp
        exact ⟨by omega, Again.mk (i + 1) hlt (by omega) (Weak.of [(0, some 0, M.length, 4)] [] (by simp [psl, hsn, hop]))⟩
      · rw [e2] at hsn
        simp only [if_true] at hsn
        simp
        exact ⟨by unfold roomOk; omega, by omega, Again.mk (i + 1) hlt (by omega) (Weak.of [(0, some 0, M.length + 1, 4)] [] (by simp [psl, hsn, hop, hm]))⟩
  · obtain rfl : i = l.length := by omega
    simp
    exact Ends.mk [] [] (by simp)

theorem SideSaid_ok (s : Side) (hb : s.bd) (h : s.ok = true) : Fn Tryz.prog fn_impl_SideSaid [s.v] [] (.sl none 4 ((saidS s).map mV)) [] := by
  refine Fn.of_go ln_impl_SideSaid rfl ?_
  have f1 := impl_SideValid_ok s hb
  have f2 := saidIn_ok s.sent (by have := (Side.ok_first h).2.1; omega) (side_texts h)
  have e : saidS s = saidF s.sent [] := by unfold saidS; rw [if_pos h]
  rw [h] at f1
  rw [e]
  simp only [side_v, psl] at f1 f2
  simp [ac_impl_SideSaid, side_v]
  refine goCall_eq f1 (by simp) ?_
  simp
  refine goCall_eq f2 (by simp) ?_
  simp
  exact Ends.mk [] [] (by simp)

theorem SideKnown_ok (s : Side) (hb : s.bd) (h : s.ok = true) : Fn Tryz.prog fn_impl_SideKnown [s.v] [] (.sl none 4 ((knownS s).map mV)) [] := by
  refine Fn.of_go ln_impl_SideKnown rfl ?_
  have f1 := impl_SideValid_ok s hb
  have hf := Side.ok_first h
  have f2 := saidIn_ok (s.sent.take s.acked.toNat) (by simp; omega) (fun d hd => side_texts h d (List.mem_of_mem_take hd))
  have e : knownS s = saidF (s.sent.take s.acked.toNat) [] := by unfold knownS; rw [if_pos h]
  rw [h] at f1
  rw [e]
  simp only [side_v, psl, List.map_take] at f1 f2
  simp [ac_impl_SideKnown, side_v]
  refine goCall_eq f1 (by simp) ?_
  simp
  refine ⟨by omega, ?_⟩
  refine goCall_eq f2 (by simp) ?_
  simp
  exact Ends.mk [] [] (by simp)

theorem msg_ne (a d : Msg) : (!decide (a.stream = d.stream) || (!decide (a.ssn = d.ssn) || (!a.loose == d.loose || !decide (a.text = d.text)))) = !decide (a = d) := by
  rw [Bool.eq_iff_iff]
  cases a; cases d
  simp

def msl (l : List Msg) : V := .sl none 4 (l.map mV)

theorem sameMessages_ok (a b : List Msg) (ha : a.length ≤ 1000000000000) : Fn Tryz.prog fn_laws_sameMessages [msl a, msl b] [] (.bool (decide (a = b))) [] := by
  refine Fn.of_go ln_laws_sameMessages rfl ?_
  simp [ac_laws_sameMessages, msl]
  refine goTest_dec (fun hl => ?_) (fun hl => ?_)
  rotate_left
  · simp [hl]
    exact Ends.mk [] [] (by simp [show a ≠ b from fun e => hl (by rw [e])])
  simp [hl]
  refine go_loop (fun i => { env := [(0, msl a), (1, msl b), (5, .int .i64 (i : Nat))], loc := [], box := [], stat := [] }) (fun i => i ≤ a.length ∧ ∀ k, k < i → nth a k = nth b k) (fun i => a.length - i) 0 ⟨by omega, fun k hk => by omega⟩ (Weak.of [] [] (by simp [msl])) ?_
  rintro i ⟨hi, hp⟩
  simp [msl, hl]
  refine goTest_dec (fun hlt => ?_) (fun hge => ?_)
  · have hlt1 : i < a.length := by omega
    have hlt2 : i < b.length := by omega
    have hne := msg_ne (nth a i) (nth b i)
    simp [hlt, hlt1, hlt2, mV]
    simp only [hne]
    by_cases h1 : nth a i = nth b i
    · simp [h1]
      exact ⟨by omega, .mk (i + 1) ⟨by omega, nth_all hp h1⟩ (by omega) (Weak.of [] [] (by simp [msl]))⟩
    · simp [h1]
      exact Ends.mk [] [] (by simp [show a ≠ b from fun e => h1 (by rw [e])])
  · obtain rfl : i = a.length := by omega
    simp [hl]
    exact Ends.mk [] [] (by simp [nth_ext hl hp])
end

end Go.Proofs.YtldoekmblpghmaaGreat
