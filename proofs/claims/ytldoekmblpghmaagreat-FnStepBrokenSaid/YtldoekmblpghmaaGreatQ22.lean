/-
  Packets written; packets drawn.
  One chunk, by the program: what a side tells first.
  What a chunk never undoes; packets of one chunk; chunks that are written can be read.
-/
import Derived.Test.YtldoekmblpghmaaGreatQ21
import Derived.Test.YtldoekmblpghmaaGreatQ20
namespace Go.Proofs.YtldoekmblpghmaaGreat
set_option linter.all false

section
set_option maxRecDepth 200000
set_option maxHeartbeats 4000000
attribute [-simp] List.getD_eq_getElem?_getD

theorem packet_bd {p : Packet} (h : p.ok = true) : (1 ≤ p.src ∧ p.src ≤ 65535) ∧ (1 ≤ p.dst ∧ p.dst ≤ 65535) ∧ (0 ≤ p.tag ∧ p.tag ≤ 4294967295) ∧ (1 ≤ p.chunks.length ∧ p.chunks.length ≤ 4) ∧ (∀ c ∈ p.chunks, c.ok = true) ∧ p.src ≠ p.dst := by
  simp only [Packet.ok, inB, Bool.and_eq_true, decide_eq_true_eq, List.all_eq_true] at h
  obtain ⟨⟨⟨⟨⟨h1, h2⟩, h3⟩, h4⟩, h5⟩, h6⟩ := h
  exact ⟨h2, h3, h5, by omega, h1, h4⟩

/-- The bytes of a packet, with a checksum of 0. -/
def headI (p : Packet) (i : Nat) : List UInt8 := put16 p.src ++ (put16 p.dst ++ (put32 p.tag ++ (0 :: 0 :: 0 :: 0 :: (p.chunks.take i).flatMap putC)))
def headP (p : Packet) : List UInt8 := headI p p.chunks.length
/-- The bytes of a packet. -/
def textP (p : Packet) : List UInt8 := if p.ok then (headP p).take 8 ++ (put32 (sumP (headP p)) ++ (headP p).drop 12) else []
theorem headI_snoc {p : Packet} {i : Nat} (h : i < p.chunks.length) : headI p (i + 1) = headI p i ++ putC (nth p.chunks i) := by
  simp [headI, take_nth h]
theorem headI_len {p : Packet} (h : ∀ c ∈ p.chunks, c.ok = true) : ∀ i : Nat, i ≤ p.chunks.length → 12 ≤ (headI p i).length ∧ (headI p i).length ≤ 12 + 64 * i
  | 0, _ => by simp [headI, put16_len, put32_len]
  | i + 1, hi => by
    have ih := headI_len h i (by omega)
    have hc := h _ (nth_mem (show i < p.chunks.length by omega))
    have hcb : (nth p.chunks i).body.length ≤ 60 := by simp only [Chunk.ok, Bool.and_eq_true, decide_eq_true_eq] at hc; exact hc.2
    rw [headI_snoc (by omega), List.length_append, putC_len]
    omega
theorem sumP_rng (s : List UInt8) : 0 ≤ sumP s ∧ sumP s ≤ 4294967295 := by
  have := sumF_lt (s.take 8 ++ 0 :: 0 :: 0 :: 0 :: s.drop 12) (1, 0) (by simp) (by simp)
  unfold sumP sumS
  omega
theorem textP_len (p : Packet) : (textP p).length ≤ 300 := by
  unfold textP
  split
  · rename_i h
    obtain ⟨-, -, -, h4, h5, -⟩ := packet_bd h
    have := headI_len h5 p.chunks.length (by omega)
    simp [headP, put32_len]
    omega
  · simp

theorem l13Put_ok (p : Packet) (hp : p.ok = true) : Fn Tryz.prog fn_spec_l13Put [p.v] [] (.str (textP p)) [] := by
  refine Fn.of_go ln_spec_l13Put rfl ?_
  obtain ⟨h1, h2, h3, h4, h5, -⟩ := packet_bd hp
  obtain ⟨a, ha⟩ := Int.eq_ofNat_of_zero_le (show 0 ≤ p.src by omega)
  obtain ⟨b, hb⟩ := Int.eq_ofNat_of_zero_le (show 0 ≤ p.dst by omega)
  obtain ⟨g, hg⟩ := Int.eq_ofNat_of_zero_le h3.1
  have f1 := l1Word_ok a (by omega)
  have f2 := l1Word_ok b (by omega)
  have f3 := l1Long_ok g (by omega)
  have h0 : headI p 0 = put16 a ++ (put16 b ++ (put32 g ++ [0, 0, 0, 0])) := by simp [headI, ha, hb, hg]
  simp [ac_spec_l13Put, packet_v, ha, hb, hg]
  refine goDCall_eq f1 (by simp) (by simp) ?_
  simp
  refine goDCall_eq f2 (by simp) (by simp) ?_
  simp
  repeat' (first | (refine And.intro (by simp [put16_len]) ?_))
  refine goDCall_eq f3 (by simp) (by simp) ?_
  simp
  repeat' (first | (refine And.intro (by simp [put16_len, put32_len]) ?_))
  refine go_loop (fun i : Nat => { env := [(1, .ptr 1 0), (3, .str (headI p i)), (4, .int .i64 (i : Nat))], loc := [], box := [(1, [.undef, .undef, .undef, .sl none 3 (p.chunks.map Chunk.v)])], stat := [] }) (fun i => i ≤ p.chunks.length) (fun i => p.chunks.length - i) 0 (by omega) (Weak.of [] [(1, 1)] (by simp [h0])) ?_
  intro i hi
  have hlen := headI_len h5 i hi
  simp
  refine goTest_dec (fun hlt => ?_) (fun hge => ?_)
  · have hc := h5 _ (nth_mem hlt)
    have g1 := l11Put_ok _ hc
    have hL := putC_len (nth p.chunks i)
    have hcb : (nth p.chunks i).body.length ≤ 60 := by simp only [Chunk.ok, Bool.and_eq_true, decide_eq_true_eq] at hc; exact hc.2
    have hs := headI_snoc hlt
    simp only [chunk_v] at g1
    simp [hlt, chunk_v]
    refine goCall_eq g1 (by simp) ?_
    simp
    refine ⟨by omega, by omega, Again.mk (i + 1) hlt (by omega) (Weak.of [] [(1, 1)] (by simp [hs]))⟩
  · obtain rfl : i = p.chunks.length := by omega
    have g1 := l13Sum_ok (headI p p.chunks.length) (by omega) (by omega)
    have hsr := sumP_rng (headI p p.chunks.length)
    have ht : textP p = (headI p p.chunks.length).take 8 ++ (put32 (sumP (headI p p.chunks.length)) ++ (headI p p.chunks.length).drop 12) := by unfold textP; rw [if_pos hp]; rfl
    obtain ⟨m, hm⟩ := Int.eq_ofNat_of_zero_le hsr.1
    rw [ht]
    rw [hm] at g1 ⊢
    have g2 := l1Long_ok m (by omega)
    simp
    repeat' (first | (refine And.intro (by omega) ?_))
    refine goDCall_eq g1 (by simp) (by simp) ?_
    simp
    refine goDCall_eq g2 (by simp) (by simp) ?_
    simp
    repeat' (first | (refine And.intro (by first | omega | (simp [put32_len]; omega)) ?_))
    exact Ends.mk [] [] (by simp)

theorem spec_PacketPut_ok (p : Packet) (hp : p.chunks.length ≤ 1000000) : Fn Tryz.prog fn_spec_PacketPut [p.v] [] (.str (textP p)) [] := by
  refine Fn.of_go ln_spec_PacketPut rfl ?_
  have f1 := spec_PacketValid_ok p hp
  simp only [packet_v] at f1
  simp [ac_spec_PacketPut, packet_v]
  refine goCall_eq f1 (by simp) ?_
  simp
  cases hok : p.ok
  · have ht : textP p = [] := by unfold textP; rw [if_neg (by simp [hok])]
    rw [ht]
    simp
    exact Ends.mk [] [] (by simp)
  · simp
    have f2 := l13Put_ok p hok
    simp only [packet_v] at f2
    refine goCall_eq f2 (by simp) ?_
    simp
    exact Ends.mk [] [] (by simp)

/-- A packet that was drawn. -/
inductive PkR (src : List UInt8) (a k : Int) : V → List (List V) → Prop
  | mk (p : Packet) (b : Int) (h : p.chunks.length ≤ 9) (h2 : ∀ c ∈ p.chunks, c.body.length ≤ 1000) (hb : a ≤ b ∧ b ≤ a + k) : PkR src a k p.v [[bsl src, .int .i64 b]]

theorem snoc_mem {α : Type} {P : α → Prop} {l : List α} {x : α} (h : ∀ c ∈ l, P c) (hx : P x) : ∀ c ∈ l ++ [x], P c := by
  intro c hc
  rcases List.mem_append.1 hc with q | q
  · exact h c q
  · obtain rfl := List.mem_singleton.1 q
    exact hx

theorem l91Packet_ok (src : List UInt8) (a : Int) (h : 0 ≤ a ∧ a < 7000000) : ∃ R bo, PkR src a 300 R bo ∧ Fn Tryz.prog fn_spec_l91Packet [.ptr 1000 0] [[bsl src, .int .i64 a]] R bo := by
  refine Fx.of_go ln_spec_l91Packet rfl ?_
  simp [ac_spec_l91Packet, bsl]
  refine goPick rfl (by omega) (by omega) fun r1 h1 => ?_
  simp
  refine goChunk rfl (by omega) fun n m t b ht hb => ?_
  simp
  refine goPick rfl (by omega) (by omega) fun r2 h2 => ?_
  simp
  refine go_loop (fun x : Nat × List Chunk × Int => { env := [(0, .ptr 1000 0), (2, .ptr 2 0), (3, .ptr 3 0), (4, .int .i64 (r2 : Nat)), (5, .int .i64 (x.1 : Nat))], loc := [], box := [(1000, [bsl src, .int .i64 x.2.2]), (2, List.replicate 4 .undef), (3, [.int .i64 7, .int .i64 9, .int .i64 (r1 : Nat), .sl (some 0) 3 (x.2.1.map Chunk.v)])], stat := [(0, some (.own x.2.1.length 3))] })
    (fun x => x.1 ≤ r2 ∧ x.2.1.length = x.1 + 1 ∧ (∀ c ∈ x.2.1, c.body.length ≤ 1000) ∧ b + 1 ≤ x.2.2 ∧ x.2.2 ≤ b + 1 + 50 * x.1) (fun x => r2 - x.1) (0, [⟨n, m, t⟩], b + 1) ⟨by simp, by simp, by simp; omega, by simp, by simp⟩ (Weak.of [(0, some 160, 1, 3)] [(1000, 1000), (2, 2), (3, 3)] (by simp [bsl, chunk_v, List.replicate])) ?_
  rintro ⟨i, l, e⟩ ⟨hi, hl, hlb, he1, he2⟩
  simp at hi hl hlb he1 he2
  simp [bsl]
  refine goTest_dec (fun hlt => ?_) (fun hge => ?_)
  · simp [hlt]
    obtain ⟨_, _, ⟨n2, m2, t2, b2, ht2, hb2⟩, f⟩ := l91Chunk_ok src e (by omega)
    refine goDCall_gen [] [(1000, 1000)] [] [] none f (by simp [bsl]) (by simp [bsl]) ?_
    simp [bsl]
    refine ⟨by unfold roomOk; omega, by omega, Again.mk (i + 1, l ++ [⟨n2, m2, t2⟩], b2) ⟨by simp; omega, by simp; omega, snoc_mem hlb ht2, by simp; omega, by simp; omega⟩ (by simp; omega) (Weak.of [(0, some 0, l.length + 1, 3)] [(1000, 1000), (2, 2), (3, 3)] ?_)⟩
    simp [bsl, chunk_v]
  · simp [hge]
    have room : ∀ m, m ≤ 9 → roomOk m 32 := fun m hm => by unfold roomOk; omega
    have hlb3 : ∀ c ∈ l ++ l ++ l, c.body.length ≤ 1000 := by
      intro c hc
      simp at hc
      exact hlb c hc
    refine goPick rfl (by omega) (by omega) fun r3 h3 => ?_
    simp
    refine goTest_dec (fun q => ?_) (fun q => ?_)
    · simp [q]
      refine goWord rfl (by omega) fun n1 b1 hn1 hb1 => ?_
      simp
      exact ⟨_, _, .mk ⟨n1, 9, r1, l⟩ b1 (by simp; omega) hlb (by omega), Ends.mk [] [(1000, 1000)] (by simp [bsl, packet_v])⟩
    simp [q]
    refine goTest_dec (fun q => ?_) (fun q => ?_)
    · simp [q]
      refine goWord rfl (by omega) fun n1 b1 hn1 hb1 => ?_
      simp
      exact ⟨_, _, .mk ⟨7, n1, r1, l⟩ b1 (by simp; omega) hlb (by omega), Ends.mk [] [(1000, 1000)] (by simp [bsl, packet_v])⟩
    simp [q]
    refine goTest_dec (fun q => ?_) (fun q => ?_)
    · simp [q]
      refine goLong rfl (by omega) fun n1 b1 hn1 hb1 => ?_
      simp
      exact ⟨_, _, .mk ⟨7, 9, n1, l⟩ b1 (by simp; omega) hlb (by omega), Ends.mk [] [(1000, 1000)] (by simp [bsl, packet_v])⟩
    simp [q]
    refine goTest_dec (fun q => ?_) (fun q => ?_)
    · simp [q]
      exact ⟨_, _, .mk ⟨7, 9, r1, []⟩ (e + 1) (by simp) (by simp) (by omega), Ends.mk [] [(1000, 1000)] (by simp [bsl, packet_v])⟩
    simp [q]
    refine goTest_dec (fun q => ?_) (fun q => ?_)
    · simp [q]
      refine ⟨⟨fun _ _ => rfl, room _ (by omega)⟩, ⟨fun _ _ => rfl, room _ (by first | omega | (simp; omega))⟩, ?_⟩
      exact ⟨_, _, .mk ⟨7, 9, r1, l ++ l ++ l⟩ (e + 1) (by simp; omega) hlb3 (by omega), Ends.mk [] [(1000, 1000)] (by simp [bsl, packet_v])⟩
    · simp [q]
      exact ⟨_, _, .mk ⟨7, 9, r1, l⟩ (e + 1) (by simp; omega) hlb (by omega), Ends.mk [] [(1000, 1000)] (by simp [bsl, packet_v])⟩
end

section
set_option maxRecDepth 200000
set_option maxHeartbeats 4000000
attribute [-simp] List.getD_eq_getElem?_getD


theorem own_c (x : Assoc) : x.own 0 1 = [.int .i64 x.src, .int .i64 x.dst, .int .i64 x.state, .bool x.byB, .int .i64 x.a.tag, .int .i64 x.a.streams, .int .i64 x.a.first, .sl (some 0) 7 (x.a.sent.map Part.v), .int .i64 x.a.acked, .int .i64 x.b.tag, .int .i64 x.b.streams, .int .i64 x.b.first, .sl (some 1) 7 (x.b.sent.map Part.v), .int .i64 x.b.acked] := rfl

theorem EndsO_ite {rs : List ARes} {st : St} {c : Prop} [Decidable c] {a b : Assoc × Int} (h1 : c → Ends rs (.int .i64 a.2) [a.1.own 0 1] st) (h2 : ¬ c → Ends rs (.int .i64 b.2) [b.1.own 0 1] st) : Ends rs (.int .i64 (if c then a else b).2) [(if c then a else b).1.own 0 1] st := by
  split
  · exact h1 ‹_›
  · exact h2 ‹_›

theorem stepHello_F {x : Assoc} {c : Chunk} (hx : x.ok = true) (hk : c.kind = 1 ∨ c.kind = 2) : stepHello x false c = ((if c.kind = 2 then (x, 3) else if ¬ (0 ≤ x.state ∧ x.state ≤ 2) then (x, 3) else
    match getHello c with
    | none => (x, 4)
    | some h => if x.state = 0 then ({ x with state := 1, a := ⟨h.tag, h.streams, h.tsn, x.a.sent, x.a.acked⟩ }, 0) else if h.tag ≠ x.a.tag ∨ h.streams ≠ x.a.streams ∨ h.tsn ≠ x.a.first then (x, 7) else (x, 0)) : Assoc × Int) := by
  have hs := Assoc.ok_state hx
  obtain ⟨-, -, -, -, h5, -, h7, -⟩ := (assoc_iff x).1 hx
  have ht := Side.ok_tag h5
  by_cases k2 : c.kind = 2
  · rw [if_pos k2]; simp [stepHello, k2]
  · have k1 : c.kind = 1 := by omega
    rw [if_neg k2]
    by_cases q : 0 ≤ x.state ∧ x.state ≤ 2
    · rw [if_neg (by simpa using q)]
      by_cases q0 : x.state = 0
      · obtain ⟨-, -, z3, z4⟩ := (side_zero (s := x.a) (by omega)).1 h5
        cases hg : getHello c <;> simp [stepHello, k1, q0, hg, Assoc.with, Assoc.side, z3, z4]
      · rcases (by omega : x.state = 1 ∨ x.state = 2) with q1 | q1 <;> cases hg : getHello c <;> simp [stepHello, k1, q1, hg, Assoc.side]
    · rw [if_pos q]; simp [stepHello, k1]; intros; omega

theorem stepHello_T {x : Assoc} {c : Chunk} (hx : x.ok = true) (hk : c.kind = 1 ∨ c.kind = 2) : stepHello x true c = ((if ¬ c.kind = 2 then (x, 3) else if ¬ (1 ≤ x.state ∧ x.state ≤ 2) then (x, 3) else
    match getHello c with
    | none => (x, 4)
    | some h => if x.state = 1 then ({ x with state := 2, b := ⟨h.tag, h.streams, h.tsn, x.b.sent, x.b.acked⟩ }, 0) else if h.tag ≠ x.b.tag ∨ h.streams ≠ x.b.streams ∨ h.tsn ≠ x.b.first then (x, 7) else (x, 0)) : Assoc × Int) := by
  have hs := Assoc.ok_state hx
  obtain ⟨-, -, -, -, -, h5, -, h7, -⟩ := (assoc_iff x).1 hx
  have ht := Side.ok_tag h5
  by_cases k2 : c.kind = 2
  · rw [if_neg (by omega)]
    by_cases q : 1 ≤ x.state ∧ x.state ≤ 2
    · rw [if_neg (by simpa using q)]
      by_cases q0 : x.state = 1
      · obtain ⟨-, -, z3, z4⟩ := (side_zero (s := x.b) (by omega)).1 h5
        cases hg : getHello c <;> simp [stepHello, k2, q0, hg, Assoc.with, Assoc.side, z3, z4]
      · have q1 : x.state = 2 := by omega
        cases hg : getHello c <;> simp [stepHello, k2, q1, hg, Assoc.side]
    · rw [if_pos q]; simp [stepHello, k2]; intros; omega
  · rw [if_pos k2]; simp [stepHello, k2]

theorem greet_ok (x : Assoc) (byB : Bool) (c : Chunk) (hb : c.body.length ≤ 1000000) (hx : x.ok = true) (hk : c.kind = 1 ∨ c.kind = 2) :
    Fn Tryz.prog fn_impl_Assoc_greet [.ptr 1000 0, c.v, .bool byB, .ptr 1000 (if byB then 9 else 4)] [x.own 0 1] (.int .i64 (stepHello x byB c).2) [(stepHello x byB c).1.own 0 1] := by
  refine Fn.of_go ln_impl_Assoc_greet rfl ?_
  have f1 := impl_InitGet_ok c hb
  have hs := Assoc.ok_state hx
  simp only [chunk_v] at f1
  cases byB
  all_goals
    first | rw [stepHello_F hx hk] | rw [stepHello_T hx hk]
    cases hg : getHello c with
    | none =>
      rw [hg] at f1
      simp [optV, zHello_v] at f1
      simp [ac_impl_Assoc_greet, chunk_v, own_c]
      repeat' (first
        | (exfalso; omega)
        | (refine goTest_dec (fun q => ?_) (fun q => ?_) <;> simp [q])
        | (refine goCall_eq f1 (by simp) ?_; simp)
        | (rw [‹c.kind = _›] at f1; refine goCall_eq f1 (by simp) ?_; simp)
        | (refine EndsO_ite (fun q => ?_) (fun q => ?_))
        | (refine Ends.mk [(0, some 0, x.a.sent.length, 7), (1, some 1, x.b.sent.length, 7)] [(1000, 1000)] ?_; simp [own_c, *] <;> fail))
    | some h =>
      rw [hg] at f1
      simp [optV, hi_v] at f1
      simp [ac_impl_Assoc_greet, chunk_v, own_c]
      repeat' (first
        | (exfalso; omega)
        | (refine goTest_dec (fun q => ?_) (fun q => ?_) <;> simp [q])
        | (refine goCall_eq f1 (by simp) ?_; simp)
        | (rw [‹c.kind = _›] at f1; refine goCall_eq f1 (by simp) ?_; simp)
        | (refine And.intro (by omega) ?_)
        | (refine EndsO_ite (fun q => ?_) (fun q => ?_))
        | (refine Ends.mk [(0, some 0, x.a.sent.length, 7), (1, some 1, x.b.sent.length, 7)] [(1000, 1000)] ?_; simp [own_c, *] <;> fail))
end

section
set_option maxRecDepth 20000
set_option maxHeartbeats 1000000
attribute [-simp] List.getD_eq_getElem?_getD

structure Keeps (x y : Assoc) (byB : Bool) : Prop where
  src : y.src = x.src
  dst : y.dst = x.dst
  state : x.state ≤ y.state
  aa : x.a.acked ≤ y.a.acked
  ba : x.b.acked ≤ y.b.acked
  asent : x.a.sent <+: y.a.sent
  bsent : x.b.sent <+: y.b.sent
  other : (y.other byB).sent = (x.other byB).sent
  mine : (y.side byB).acked = (x.side byB).acked
  tag : (y.other byB).tag = (x.other byB).tag

theorem Keeps.refl (x : Assoc) (byB : Bool) : Keeps x x byB :=
  ⟨rfl, rfl, Int.le_refl _, Int.le_refl _, Int.le_refl _, List.prefix_refl _, List.prefix_refl _, rfl, rfl, rfl⟩

theorem Keeps.trans {x y z : Assoc} {byB : Bool} (h : Keeps x y byB) (k : Keeps y z byB) : Keeps x z byB :=
  ⟨k.src.trans h.src, k.dst.trans h.dst, Int.le_trans h.state k.state, Int.le_trans h.aa k.aa, Int.le_trans h.ba k.ba, h.asent.trans k.asent, h.bsent.trans k.bsent, k.other.trans h.other, k.mine.trans h.mine, k.tag.trans h.tag⟩

theorem keeps_ite {x : Assoc} {byB : Bool} {c : Prop} [Decidable c] {u v : Assoc × Int} (h1 : c → Keeps x u.1 byB) (h2 : ¬ c → Keeps x v.1 byB) : Keeps x (if c then u else v).1 byB := by
  split
  · exact h1 ‹_›
  · exact h2 ‹_›

/-- Only the state, and who asked for the end, change. -/
theorem keeps_state (x : Assoc) (byB : Bool) {s : Int} {w : Bool} (h : x.state ≤ s) : Keeps x { x with state := s, byB := w } byB := by
  cases byB <;> exact ⟨rfl, rfl, h, Int.le_refl _, Int.le_refl _, List.prefix_refl _, List.prefix_refl _, rfl, rfl, rfl⟩

theorem stepHello_keeps {x : Assoc} (h : x.ok = true) (byB : Bool) {c : Chunk} (hk : c.kind = 1 ∨ c.kind = 2) : Keeps x (stepHello x byB c).1 byB := by
  cases byB
  · rw [stepHello_F h hk]
    refine keeps_ite (fun _ => Keeps.refl _ _) (fun _ => keeps_ite (fun _ => Keeps.refl _ _) (fun _ => ?_))
    cases getHello c with
    | none => exact Keeps.refl _ _
    | some d =>
      refine keeps_ite (fun q => ?_) (fun _ => keeps_ite (fun _ => Keeps.refl _ _) (fun _ => Keeps.refl _ _))
      exact ⟨rfl, rfl, by show x.state ≤ 1; omega, Int.le_refl _, Int.le_refl _, List.prefix_refl _, List.prefix_refl _, rfl, rfl, rfl⟩
  · rw [stepHello_T h hk]
    refine keeps_ite (fun _ => Keeps.refl _ _) (fun _ => keeps_ite (fun _ => Keeps.refl _ _) (fun _ => ?_))
    cases getHello c with
    | none => exact Keeps.refl _ _
    | some d =>
      refine keeps_ite (fun q => ?_) (fun _ => keeps_ite (fun _ => Keeps.refl _ _) (fun _ => Keeps.refl _ _))
      exact ⟨rfl, rfl, by show x.state ≤ 2; omega, Int.le_refl _, Int.le_refl _, List.prefix_refl _, List.prefix_refl _, rfl, rfl, rfl⟩

theorem stepPart_keeps (x : Assoc) (byB : Bool) (c : Chunk) : Keeps x (stepPart x byB c).1 byB := by
  unfold stepPart
  simp only
  split
  · exact Keeps.refl _ _
  · split
    · exact Keeps.refl _ _
    · refine keeps_ite (fun _ => Keeps.refl _ _) (fun _ => keeps_ite (fun _ => Keeps.refl _ _) (fun _ => keeps_ite (fun _ => Keeps.refl _ _) (fun _ => keeps_ite (fun _ => Keeps.refl _ _) (fun _ => keeps_ite (fun _ => Keeps.refl _ _) (fun _ => keeps_ite (fun _ => Keeps.refl _ _) (fun _ => ?_))))))
      cases byB
      · exact ⟨rfl, rfl, Int.le_refl _, Int.le_refl _, Int.le_refl _, List.prefix_append _ _, List.prefix_refl _, rfl, rfl, rfl⟩
      · exact ⟨rfl, rfl, Int.le_refl _, Int.le_refl _, Int.le_refl _, List.prefix_refl _, List.prefix_append _ _, rfl, rfl, rfl⟩

theorem stepSack_keeps (x : Assoc) (byB : Bool) (c : Chunk) : Keeps x (stepSack x byB c).1 byB := by
  rw [stepSack_eq]
  refine keeps_ite (fun _ => Keeps.refl _ _) (fun _ => ?_)
  cases getSack c with
  | none => exact Keeps.refl _ _
  | some k =>
    refine keeps_ite (fun _ => Keeps.refl _ _) (fun _ => ?_)
    generalize diffS (addS (x.other byB).first (-1)) k.cum = f
    cases byB
    · exact ⟨rfl, rfl, Int.le_refl _, Int.le_refl _, by show x.b.acked ≤ max x.b.acked f; omega, List.prefix_refl _, List.prefix_refl _, rfl, rfl, rfl⟩
    · exact ⟨rfl, rfl, Int.le_refl _, by show x.a.acked ≤ max x.a.acked f; omega, Int.le_refl _, List.prefix_refl _, List.prefix_refl _, rfl, rfl, rfl⟩

theorem stepEnd_keeps (x : Assoc) (byB : Bool) (k : Int) : Keeps x (stepEnd x byB k).1 byB := by
  unfold stepEnd
  simp only
  repeat' split
  all_goals first
    | exact Keeps.refl _ _
    | exact keeps_state x byB (by omega)

theorem stepCookie_keeps (x : Assoc) (byB : Bool) (k : Int) : Keeps x (stepCookie x byB k).1 byB := by
  unfold stepCookie
  repeat' split
  all_goals first
    | exact Keeps.refl _ _
    | exact keeps_state x byB (by omega)

theorem stepC_keeps {x : Assoc} (h : x.ok = true) (byB : Bool) (c : Chunk) : Keeps x (stepC x byB c).1 byB := by
  unfold stepC
  refine keeps_ite (fun q => stepHello_keeps h byB q) (fun _ => keeps_ite (fun _ => stepPart_keeps x byB c) (fun _ => keeps_ite (fun _ => stepSack_keeps x byB c) (fun _ => keeps_ite (fun _ => stepEnd_keeps x byB _) (fun _ => stepCookie_keeps x byB _))))

theorem stepAll_keeps (byB : Bool) : ∀ (l : List Chunk) {x : Assoc} (r : List Int), x.ok = true → Keeps x (stepAll byB l x r).1 byB
  | [], x, r, h => Keeps.refl _ _
  | c :: l, x, r, h => (stepC_keeps h byB c).trans (stepAll_keeps byB l _ (stepC_ok h byB c))

/-! ## Rules -/

theorem rule_ite {c : Prop} [Decidable c] {u v : Assoc × Int} (h1 : u.2 = 0 ∨ 3 ≤ u.2) (h2 : v.2 = 0 ∨ 3 ≤ v.2) : (if c then u else v).2 = 0 ∨ 3 ≤ (if c then u else v).2 := by
  split
  · exact h1
  · exact h2

/-- A chunk breaks no rule of packets as a whole. -/
theorem stepC_three (x : Assoc) (byB : Bool) (c : Chunk) : (stepC x byB c).2 = 0 ∨ 3 ≤ (stepC x byB c).2 := by
  unfold stepC
  refine rule_ite ?_ (rule_ite ?_ (rule_ite ?_ (rule_ite ?_ ?_)))
  · unfold stepHello; simp only; repeat' split
    all_goals (first | (left; rfl) | (right; simp))
  · unfold stepPart; simp only; repeat' split
    all_goals (first | (left; rfl) | (right; simp))
  · rw [stepSack_eq]
    refine rule_ite (by right; simp) ?_
    cases getSack c with
    | none => right; simp
    | some k => exact rule_ite (by right; simp) (by left; rfl)
  · unfold stepEnd; simp only; repeat' split
    all_goals (first | (left; rfl) | (right; simp))
  · unfold stepCookie; repeat' split
    all_goals (first | (left; rfl) | (right; simp))

theorem stepAll_three (byB : Bool) : ∀ (l : List Chunk) (x : Assoc) (r : List Int), (∀ k ∈ r, k = 0 ∨ 3 ≤ k) → ∀ k ∈ (stepAll byB l x r).2, k = 0 ∨ 3 ≤ k
  | [], x, r, h => h
  | c :: l, x, r, h => stepAll_three byB l _ _ (by
    intro k hk
    rcases List.mem_append.1 hk with q | q
    · exact h k q
    · rw [List.mem_singleton.1 q]; exact stepC_three x byB c)

theorem rules_mem {x : Assoc} {byB : Bool} {p : Packet} {k : Int} : k ∈ rulesS x byB p ↔ (1 ≤ k ∧ k ≤ 11) ∧ ((k = 1 ∧ p.alone = false) ∨ (k = 2 ∧ p.tag ≠ tagS x byB p) ∨ k ∈ (stepAll byB p.chunks x []).2) := by
  unfold rulesS
  rw [List.mem_filter]
  constructor
  · rintro ⟨h1, h2⟩
    obtain ⟨n, hn, rfl⟩ := List.mem_map.1 h1
    have hn2 := List.mem_range.1 hn
    simp only [Bool.and_eq_true, Bool.or_eq_true, decide_eq_true_eq, Bool.not_eq_true'] at h2
    refine ⟨⟨h2.1, by show (n : Int) ≤ 11; omega⟩, ?_⟩
    rcases h2.2 with (h | h) | h
    · exact Or.inl h
    · exact Or.inr (Or.inl h)
    · exact Or.inr (Or.inr h)
  · rintro ⟨⟨h1, h2⟩, h3⟩
    refine ⟨List.mem_map.2 ⟨k.toNat, List.mem_range.2 (by omega), by show ((k.toNat : Nat) : Int) = k; omega⟩, ?_⟩
    simp only [Bool.and_eq_true, Bool.or_eq_true, decide_eq_true_eq, Bool.not_eq_true']
    refine ⟨h1, ?_⟩
    rcases h3 with h | h | h
    · exact Or.inl (Or.inl h)
    · exact Or.inl (Or.inr h)
    · exact Or.inr h

theorem rules_sorted (x : Assoc) (byB : Bool) (p : Packet) : (rulesS x byB p).Pairwise (· < ·) := by
  unfold rulesS
  refine List.Pairwise.filter _ ?_
  rw [List.pairwise_map]
  exact List.pairwise_lt_range.imp fun h => Int.ofNat_lt.2 h

theorem rules_eq {x : Assoc} {byB : Bool} {p : Packet} {q : Int → Bool} (h : ∀ k : Int, 1 ≤ k → k ≤ 11 → (((k = 1 ∧ p.alone = false) ∨ (k = 2 ∧ p.tag ≠ tagS x byB p) ∨ k ∈ (stepAll byB p.chunks x []).2) ↔ q k = true)) :
    rulesS x byB p = ((List.range 12).map Int.ofNat).filter fun k => decide (1 ≤ k) && q k := by
  unfold rulesS
  refine List.filter_congr fun k hk => ?_
  obtain ⟨n, hn, rfl⟩ := List.mem_map.1 hk
  have hn2 := List.mem_range.1 hn
  rw [Bool.eq_iff_iff]
  simp only [Bool.and_eq_true, Bool.or_eq_true, decide_eq_true_eq, Bool.not_eq_true']
  constructor
  · rintro ⟨h1, h2⟩
    refine ⟨h1, (h _ h1 (by show (n : Int) ≤ 11; omega)).1 ?_⟩
    rcases h2 with (h | h) | h
    · exact Or.inl h
    · exact Or.inr (Or.inl h)
    · exact Or.inr (Or.inr h)
  · rintro ⟨h1, h2⟩
    refine ⟨h1, ?_⟩
    rcases (h _ h1 (by show (n : Int) ≤ 11; omega)).2 h2 with h | h | h
    · exact Or.inl (Or.inl h)
    · exact Or.inl (Or.inr h)
    · exact Or.inr h

theorem filter_one {r : Int} (hr : 0 ≤ r ∧ r ≤ 11) : (((List.range 12).map Int.ofNat).filter fun k => decide (1 ≤ k) && decide (k = r)) = if r = 0 then [] else [r] := by
  have : r = 0 ∨ r = 1 ∨ r = 2 ∨ r = 3 ∨ r = 4 ∨ r = 5 ∨ r = 6 ∨ r = 7 ∨ r = 8 ∨ r = 9 ∨ r = 10 ∨ r = 11 := by omega
  rcases this with rfl | rfl | rfl | rfl | rfl | rfl | rfl | rfl | rfl | rfl | rfl | rfl <;> decide

/-- The rules of a packet with one chunk and the right tag. -/
theorem rules_one {x : Assoc} {byB : Bool} {p : Packet} {c : Chunk} (hc : p.chunks = [c]) (ha : p.alone = true) (ht : p.tag = tagS x byB p) : rulesS x byB p = if (stepC x byB c).2 = 0 then [] else [(stepC x byB c).2] := by
  rw [rules_eq (q := fun k => decide (k = (stepC x byB c).2)), filter_one (stepC_rule x byB c)]
  intro k _ _
  rw [hc, ha]
  simp [stepAll, ← ht]

theorem alone_one {p : Packet} {c : Chunk} (hc : p.chunks = [c]) (ho : p.ok = true) : p.alone = true := by
  unfold Packet.alone
  rw [ho, hc]
  simp

theorem packet_ok {p : Packet} : p.ok = true ↔ (∀ c ∈ p.chunks, c.ok = true) ∧ (1 ≤ p.src ∧ p.src ≤ 65535) ∧ (1 ≤ p.dst ∧ p.dst ≤ 65535) ∧ p.src ≠ p.dst ∧ (0 ≤ p.tag ∧ p.tag ≤ 4294967295) ∧ 1 ≤ p.chunks.length ∧ p.chunks.length ≤ 4 := by
  simp only [Packet.ok, inB, Bool.and_eq_true, decide_eq_true_eq, List.all_eq_true]
  constructor
  · rintro ⟨⟨⟨⟨⟨h1, h2⟩, h3⟩, h4⟩, h5⟩, h6⟩
    exact ⟨h1, h2, h3, h4, h5, by omega, by omega⟩
  · rintro ⟨h1, h2, h3, h4, h5, h6, h7⟩
    exact ⟨⟨⟨⟨⟨h1, h2⟩, h3⟩, h4⟩, h5⟩, by omega, by omega⟩

theorem mine_iff {x : Assoc} {p : Packet} : mineS x p = true ↔ x.ok = true ∧ p.ok = true ∧ ((p.src = x.dst ∧ p.dst = x.src) ∨ (p.src = x.src ∧ p.dst = x.dst)) := by
  simp [mineS, byBS, and_assoc]

theorem stepS_mine {x : Assoc} {p : Packet} (h : mineS x p = true) : stepS x p = if rulesS x (byBS x p) p = [] then ((stepAll (byBS x p) p.chunks x []).1, []) else (x, rulesS x (byBS x p) p) := by
  unfold stepS; rw [if_pos h]

theorem stepS_other {x : Assoc} {p : Packet} (h : mineS x p = false) : stepS x p = (zAssoc, []) := by
  unfold stepS; rw [if_neg (by simp [h])]

theorem stepS_rules {x : Assoc} {p : Packet} (h : mineS x p = true) : (stepS x p).2 = rulesS x (byBS x p) p := by
  rw [stepS_mine h]
  split
  · exact (‹rulesS x (byBS x p) p = []›).symm
  · rfl

theorem stepS_ok {x : Assoc} {p : Packet} (h : mineS x p = true) : (stepS x p).1.ok = true := by
  rw [stepS_mine h]
  split
  · exact stepAll_ok _ _ _ (mine_iff.1 h).1
  · exact (mine_iff.1 h).1

theorem stepS_keeps {x : Assoc} {p : Packet} (h : mineS x p = true) : Keeps x (stepS x p).1 (byBS x p) := by
  rw [stepS_mine h]
  split
  · exact stepAll_keeps _ _ _ (mine_iff.1 h).1
  · exact Keeps.refl _ _

theorem stepS_broken {x : Assoc} {p : Packet} (h : mineS x p = true) (hr : (stepS x p).2 ≠ []) : (stepS x p).1 = x := by
  rw [stepS_rules h] at hr
  rw [stepS_mine h, if_neg hr]

theorem stepS_fine {x : Assoc} {p : Packet} (h : mineS x p = true) (hr : (stepS x p).2 = []) : (stepS x p).1 = (stepAll (byBS x p) p.chunks x []).1 := by
  rw [stepS_rules h] at hr
  rw [stepS_mine h, if_pos hr]

/-- An association is there. -/
theorem src_pos {x : Assoc} (h : x.ok = true) : x.src ≠ 0 := by
  have := ((assoc_iff x).1 h).1
  omega

theorem mine_of_src {x : Assoc} {p : Packet} (h : (stepS x p).1.src ≠ 0) : mineS x p = true := by
  cases q : mineS x p
  · rw [stepS_other q] at h; exact absurd rfl h
  · rfl

/-! ## A packet of a side with one chunk -/

def fromS (x : Assoc) (byB : Bool) (c : Chunk) : Packet := if byB then ⟨x.dst, x.src, x.a.tag, [c]⟩ else ⟨x.src, x.dst, x.b.tag, [c]⟩

theorem from_facts {x : Assoc} (h : x.ok = true) (byB : Bool) {c : Chunk} (hc : c.ok = true) : (fromS x byB c).ok = true ∧ byBS x (fromS x byB c) = byB ∧ mineS x (fromS x byB c) = true ∧ (fromS x byB c).chunks = [c] ∧ (fromS x byB c).tag = (x.other byB).tag := by
  obtain ⟨h1, h2, h3, -, h5, h6, -⟩ := (assoc_iff x).1 h
  have ta : 0 ≤ x.a.tag ∧ x.a.tag ≤ 4294967295 := by
    by_cases q : x.a.tag = 0
    · omega
    · have := (side_iff q).1 h5; omega
  have tb : 0 ≤ x.b.tag ∧ x.b.tag ≤ 4294967295 := by
    by_cases q : x.b.tag = 0
    · omega
    · have := (side_iff q).1 h6; omega
  have ho : (fromS x byB c).ok = true := by
    rw [packet_ok]
    cases byB
    · exact ⟨by simpa [fromS] using hc, h1, h2, h3, tb, by simp [fromS], by simp [fromS]⟩
    · exact ⟨by simpa [fromS] using hc, h2, h1, fun e => h3 e.symm, ta, by simp [fromS], by simp [fromS]⟩
  refine ⟨ho, ?_, mine_iff.2 ⟨h, ho, ?_⟩, ?_, ?_⟩
  · cases byB
    · simp [fromS, byBS]; intro e; exact absurd e h3
    · simp [fromS, byBS]
  · cases byB
    · right; exact ⟨rfl, rfl⟩
    · left; exact ⟨rfl, rfl⟩
  · cases byB <;> rfl
  · cases byB <;> rfl

theorem step_from {x : Assoc} (h : x.ok = true) (byB : Bool) {c : Chunk} (hc : c.ok = true) (hk : c.kind ≠ 1) : stepS x (fromS x byB c) = if (stepC x byB c).2 = 0 then ((stepC x byB c).1, []) else (x, [(stepC x byB c).2]) := by
  obtain ⟨h1, h2, h3, h4, h5⟩ := from_facts h byB hc
  have ht : (fromS x byB c).tag = tagS x byB (fromS x byB c) := by
    rw [h5]; unfold tagS; rw [h4]; simp [hk]
  rw [stepS_mine h3, h2, rules_one h4 (alone_one h4 h1) ht, h4]
  by_cases q : (stepC x byB c).2 = 0
  · simp [q, stepAll]
  · simp [q]

/-! ## What is written can be read -/

theorem u16_back {n : Int} (h : 0 ≤ n ∧ n ≤ 65535) : 256 * ((UInt8.ofNat (n.toNat / 256)).toNat : Int) + ((UInt8.ofNat (n.toNat % 256)).toNat : Int) = n := by
  have e1 : (UInt8.ofNat (n.toNat / 256)).toNat = n.toNat / 256 := UInt8.toNat_ofNat_of_lt' (by simp [UInt8.size]; omega)
  have e2 : (UInt8.ofNat (n.toNat % 256)).toNat = n.toNat % 256 := UInt8.toNat_ofNat_of_lt' (by simp [UInt8.size]; omega)
  rw [e1, e2]; omega

theorem at16_put {n : Int} (h : 0 ≤ n ∧ n ≤ 65535) (a b : List UInt8) {i : Nat} (hi : a.length = i) : at16 (a ++ (put16 n ++ b)) i = n := by
  subst hi
  have e1 : nth (a ++ (put16 n ++ b)) a.length = UInt8.ofNat (n.toNat / 256) := by
    rw [nth_eq (by simp [put16_len]; omega), List.getElem_append_right (by omega)]; simp [put16]
  have e2 : nth (a ++ (put16 n ++ b)) (a.length + 1) = UInt8.ofNat (n.toNat % 256) := by
    rw [nth_eq (by simp [put16_len]; omega), List.getElem_append_right (by omega)]; simp [put16]
  unfold at16
  rw [e1, e2]
  exact u16_back h

theorem at32_put {n : Int} (h : 0 ≤ n ∧ n ≤ 4294967295) (b : List UInt8) : at32 (put32 n ++ b) 0 = n := by
  have e : put32 n ++ b = put16 (n / 65536) ++ (put16 (n % 65536) ++ b) := by simp [put32]
  unfold at32
  rw [e]
  have h1 := at16_put (n := n / 65536) (by omega) [] (put16 (n % 65536) ++ b) (i := 0) rfl
  have h2 := at16_put (n := n % 65536) (by omega) (put16 (n / 65536)) b (i := 0 + 2) (by rfl)
  simp only [List.nil_append] at h1
  rw [h1, h2]; omega

theorem putPart_some {d : Part} (h : d.ok = true) : ∃ c, putPart d = some c ∧ getPart c = some d ∧ c.kind = 0 ∧ c.ok = true := by
  have h0 := h
  obtain ⟨h1, h2, h3, h4, h5⟩ := part_facts h
  simp only [inS, Bool.and_eq_true, decide_eq_true_eq] at h1 h2 h3
  refine ⟨_, by unfold putPart; rw [if_pos h], ?_, rfl, ?_⟩
  · obtain ⟨tsn, stream, ssn, first, last, loose, text⟩ := d
    simp only at h1 h2 h3 h4 h5
    have e1 := at16_put (n := tsn) (by omega) [] (put16 stream ++ (put16 ssn ++ text)) (i := 0) rfl
    have e2 := at16_put (n := stream) (by omega) (put16 tsn) (put16 ssn ++ text) (i := 2) rfl
    have e3 := at16_put (n := ssn) (by omega) (put16 tsn ++ put16 stream) text (i := 4) rfl
    have e4 : (put16 tsn ++ put16 stream ++ put16 ssn ++ text).drop 6 = text := rfl
    simp only [List.nil_append, List.append_assoc] at e1 e2 e3 e4
    have ep : Chunk.part ⟨0, (if last then 1 else 0) + (if first then 2 else 0) + (if loose then 4 else 0), put16 tsn ++ put16 stream ++ put16 ssn ++ text⟩ = ⟨tsn, stream, ssn, first, last, loose, text⟩ := by
      simp only [Chunk.part, List.append_assoc, e1, e2, e3, e4]
      cases first <;> cases last <;> cases loose <;> rfl
    unfold getPart
    rw [if_pos, ep, if_pos h0]
    have hf : (0 : Int) ≤ (if last then 1 else 0) + (if first then 2 else 0) + (if loose then 4 else 0) ∧ ((if last then 1 else 0) + (if first then 2 else 0) + (if loose then 4 else 0) : Int) < 8 := by
      cases first <;> cases last <;> cases loose <;> decide
    refine ⟨rfl, ?_, ?_, ?_⟩
    · exact hf.1
    · first | exact hf.2 | exact Int.le_of_lt_add_one hf.2
    · simp [put16_len]; try omega
  · have hf : (0 : Int) ≤ (if d.last then 1 else 0) + (if d.first then 2 else 0) + (if d.loose then 4 else 0) ∧ ((if d.last then 1 else 0) + (if d.first then 2 else 0) + (if d.loose then 4 else 0) : Int) ≤ 255 := by
      cases d.first <;> cases d.last <;> cases d.loose <;> decide
    simp only [Chunk.ok, inB, Bool.and_eq_true, decide_eq_true_eq]
    exact ⟨⟨⟨by omega, by omega⟩, hf⟩, by simp [put16_len]; omega⟩

theorem putSack_some {n : Int} (h : 0 ≤ n ∧ n ≤ 65535) : ∃ c, putSack ⟨n, []⟩ = some c ∧ getSack c = some ⟨n, []⟩ ∧ c.kind = 3 ∧ c.ok = true := by
  have ho : Sack.ok ⟨n, []⟩ = true := by simp [Sack.ok, gapsOk, inS]; omega
  have e1 := at16_put h [] [] (i := 0) rfl
  simp only [List.nil_append, List.append_nil] at e1
  refine ⟨⟨3, 0, put16 n⟩, by unfold putSack; rw [if_pos ho]; simp, ?_, rfl, ?_⟩
  · have es : Chunk.sack ⟨3, 0, put16 n⟩ = ⟨n, []⟩ := by
      simp only [Chunk.sack, e1, put16_len]; rfl
    unfold getSack
    rw [if_pos ⟨rfl, rfl, by simp [put16_len]⟩, es, if_pos ho]
  · simp [Chunk.ok, inB, put16_len]

theorem putHello_some {x : Hello} (h : x.ok = true) (w : Bool) : ∃ c, putHello x w = some c ∧ getHello c = some x ∧ c.kind = (if w then 2 else 1) ∧ c.ok = true := by
  have h0 := h
  simp only [Hello.ok, inB, inS, Bool.and_eq_true, decide_eq_true_eq] at h
  obtain ⟨tag, window, streams, tsn⟩ := x
  simp only at h
  refine ⟨_, by unfold putHello; rw [if_pos h0], ?_, rfl, ?_⟩
  · have e0 := at32_put (n := tag) (by omega) (put16 window ++ (put16 streams ++ put16 tsn))
    have e1 := at16_put (n := window) (by omega) (put32 tag) (put16 streams ++ put16 tsn) (i := 4) rfl
    have e2 := at16_put (n := streams) (by omega) (put32 tag ++ put16 window) (put16 tsn) (i := 6) rfl
    have e3 := at16_put (n := tsn) (by omega) (put32 tag ++ put16 window ++ put16 streams) [] (i := 8) rfl
    simp only [List.append_assoc, List.append_nil] at e0 e1 e2 e3
    have ep : Chunk.hello ⟨if w then 2 else 1, 0, put32 tag ++ put16 window ++ put16 streams ++ put16 tsn⟩ = ⟨tag, window, streams, tsn⟩ := by
      simp only [Chunk.hello, List.append_assoc, e0, e1, e2, e3]
    unfold getHello
    rw [if_pos, ep, if_pos h0]
    refine ⟨?_, rfl, by simp [put16_len, put32_len]⟩
    cases w <;> simp
  · cases w <;> simp [Chunk.ok, inB, put16_len, put32_len]
end

end Go.Proofs.YtldoekmblpghmaaGreat
