/-
  Packets written; packets drawn.
  One chunk, by the program: what a side tells first.
  What a chunk never undoes; packets of one chunk; chunks that are written can be read.
-/
import Derived.Test.YtnhhcfbigjpfeaaGreatDoorQ22
import Derived.Test.YtnhhcfbigjpfeaaGreatDoorQ21
namespace Go.Proofs.YtnhhcfbigjpfeaaGreatDoor
set_option linter.all false

section
set_option maxRecDepth 200000
set_option maxHeartbeats 4000000
attribute [-simp] List.getD_eq_getElem?_getD

theorem packet_bd {p : Packet} (h : p.ok = true) : (1 ≤ p.src ∧ p.src ≤ 65535) ∧ (1 ≤ p.dst ∧ p.dst ≤ 65535) ∧ (0 ≤ p.tag ∧ p.tag ≤ 4294967295) ∧ (1 ≤ p.chunks.length ∧ p.chunks.length ≤ 4) ∧ (∀ c ∈ p.chunks, c.ok = true) ∧ p.src ≠ p.dst := by
  simp only [Packet.ok, inB, Bool.and_eq_true, decide_eq_true_eq, List.all_eq_true] at h
  obtain ⟨⟨⟨⟨⟨h1, h2⟩, h3⟩, h4⟩, h5⟩, h6⟩ := h
  exact ⟨h2, h3, h5, by omega, h1, h4⟩

/-- The bytes of a packet, with a checksum of 0. -/
def headI (p : Packet) (i : Nat) : List UInt8 := put16 p.src ++ (put16 p.dst ++ (put32 p.tag ++ (0 :: 0 :: 0 :: 0 :: (p.chunks.take i).flatMap putC)))
def headP (p : Packet) : List UInt8 := headI p p.chunks.length
/-- The bytes of a packet. -/
def textP (p : Packet) : List UInt8 := if p.ok then (headP p).take 8 ++ (put32 (sumP (headP p)) ++ (headP p).drop 12) else []
theorem headI_snoc {p : Packet} {i : Nat} (h : i < p.chunks.length) : headI p (i + 1) = headI p i ++ putC (nth p.chunks i) := by
  simp [headI, take_nth h]
theorem headI_len {p : Packet} (h : ∀ c ∈ p.chunks, c.ok = true) : ∀ i : Nat, i ≤ p.chunks.length → 12 ≤ (headI p i).length ∧ (headI p i).length ≤ 12 + 64 * i
  | 0, _ => by simp [headI, put16_len, put32_len]
  | i + 1, hi => by
    have ih := headI_len h i (by omega)
    have hc := h _ (nth_mem (show i < p.chunks.length by omega))
    have hcb : (nth p.chunks i).body.length ≤ 60 := by simp only [Chunk.ok, Bool.and_eq_true, decide_eq_true_eq] at hc; exact hc.2
    rw [headI_snoc (by omega), List.length_append, putC_len]
    omega
theorem sumP_rng (s : List UInt8) : 0 ≤ sumP s ∧ sumP s ≤ 4294967295 := by
  have := sumF_lt (s.take 8 ++ 0 :: 0 :: 0 :: 0 :: s.drop 12) (1, 0) (by simp) (by simp)
  unfold sumP sumS
  omega
theorem l13Put_ok (p : Packet) (hp : p.ok = true) : Fn Tryz.prog fn_spec_l13Put [p.v] [] (.str (textP p)) [] := by
  refine Fn.of_go ln_spec_l13Put rfl ?_
  obtain ⟨h1, h2, h3, h4, h5, -⟩ := packet_bd hp
  obtain ⟨a, ha⟩ := Int.eq_ofNat_of_zero_le (show 0 ≤ p.src by omega)
  obtain ⟨b, hb⟩ := Int.eq_ofNat_of_zero_le (show 0 ≤ p.dst by omega)
  obtain ⟨g, hg⟩ := Int.eq_ofNat_of_zero_le h3.1
  have f1 := l1Word_ok a (by omega)
  have f2 := l1Word_ok b (by omega)
  have f3 := l1Long_ok g (by omega)
  have h0 : headI p 0 = put16 a ++ (put16 b ++ (put32 g ++ [0, 0, 0, 0])) := by simp [headI, ha, hb, hg]
  simp [ac_spec_l13Put, packet_v, ha, hb, hg]
  refine goDCall_eq f1 (by simp) (by simp) ?_
  simp
  refine goDCall_eq f2 (by simp) (by simp) ?_
  simp
  repeat' (first | (refine And.intro (by simp [put16_len]) ?_))
  refine goDCall_eq f3 (by simp) (by simp) ?_
  simp
  repeat' (first | (refine And.intro (by simp [put16_len, put32_len]) ?_))
  refine go_loop (fun i : Nat => { env := [(1, .ptr 1 0), (3, .str (headI p i)), (4, .int .i64 (i : Nat))], loc := [], box := [(1, [.undef, .undef, .undef, .sl none 3 (p.chunks.map Chunk.v)])], stat := [] }) (fun i => i ≤ p.chunks.length) (fun i => p.chunks.length - i) 0 (by omega) (Weak.of [] [(1, 1)] (by simp [h0])) ?_
  intro i hi
  have hlen := headI_len h5 i hi
  simp
  refine goTest_dec (fun hlt => ?_) (fun hge => ?_)
  · have hc := h5 _ (nth_mem hlt)
    have g1 := l11Put_ok _ hc
    have hL := putC_len (nth p.chunks i)
    have hcb : (nth p.chunks i).body.length ≤ 60 := by simp only [Chunk.ok, Bool.and_eq_true, decide_eq_true_eq] at hc; exact hc.2
    have hs := headI_snoc hlt
    simp only [chunk_v] at g1
    simp [hlt, chunk_v]
    refine goCall_eq g1 (by simp) ?_
    simp
    refine ⟨by omega, by omega, Again.mk (i + 1) hlt (by omega) (Weak.of [] [(1, 1)] (by simp [hs]))⟩
  · obtain rfl : i = p.chunks.length := by omega
    have g1 := l13Sum_ok (headI p p.chunks.length) (by omega) (by omega)
    have hsr := sumP_rng (headI p p.chunks.length)
    have ht : textP p = (headI p p.chunks.length).take 8 ++ (put32 (sumP (headI p p.chunks.length)) ++ (headI p p.chunks.length).drop 12) := by unfold textP; rw [if_pos hp]; rfl
    obtain ⟨m, hm⟩ := Int.eq_ofNat_of_zero_le hsr.1
    rw [ht]
    rw [hm] at g1 ⊢
    have g2 := l1Long_ok m (by omega)
    simp
    repeat' (first | (refine And.intro (by omega) ?_))
    refine goDCall_eq g1 (by simp) (by simp) ?_
    simp
    refine goDCall_eq g2 (by simp) (by simp) ?_
    simp
    repeat' (first | (refine And.intro (by first | omega | (simp [put32_len]; omega)) ?_))
    exact Ends.mk [] [] (by simp)

theorem spec_PacketPut_ok (p : Packet) (hp : p.chunks.length ≤ 1000000) : Fn Tryz.prog fn_spec_PacketPut [p.v] [] (.str (textP p)) [] := by
  refine Fn.of_go ln_spec_PacketPut rfl ?_
  have f1 := spec_PacketValid_ok p hp
  simp only [packet_v] at f1
  simp [ac_spec_PacketPut, packet_v]
  refine goCall_eq f1 (by simp) ?_
  simp
  cases hok : p.ok
  · have ht : textP p = [] := by unfold textP; rw [if_neg (by simp [hok])]
    rw [ht]
    simp
    exact Ends.mk [] [] (by simp)
  · simp
    have f2 := l13Put_ok p hok
    simp only [packet_v] at f2
    refine goCall_eq f2 (by simp) ?_
    simp
    exact Ends.mk [] [] (by simp)

/-- A packet that was drawn. -/
inductive PkR (src : List UInt8) (a k : Int) : V → List (List V) → Prop
  | mk (p : Packet) (b : Int) (h : p.chunks.length ≤ 9) (h2 : ∀ c ∈ p.chunks, c.body.length ≤ 1000) (hb : a ≤ b ∧ b ≤ a + k) : PkR src a k p.v [[bsl src, .int .i64 b]]

theorem snoc_mem {α : Type} {P : α → Prop} {l : List α} {x : α} (h : ∀ c ∈ l, P c) (hx : P x) : ∀ c ∈ l ++ [x], P c := by
  intro c hc
  rcases List.mem_append.1 hc with q | q
  · exact h c q
  · obtain rfl := List.mem_singleton.1 q
    exact hx
end

section
set_option maxRecDepth 200000
set_option maxHeartbeats 4000000
attribute [-simp] List.getD_eq_getElem?_getD


theorem own_c (x : Assoc) : x.own 0 1 = [.int .i64 x.src, .int .i64 x.dst, .int .i64 x.state, .bool x.byB, .int .i64 x.a.tag, .int .i64 x.a.streams, .int .i64 x.a.first, .sl (some 0) 7 (x.a.sent.map Part.v), .int .i64 x.a.acked, .int .i64 x.b.tag, .int .i64 x.b.streams, .int .i64 x.b.first, .sl (some 1) 7 (x.b.sent.map Part.v), .int .i64 x.b.acked] := rfl

theorem stepHello_F {x : Assoc} {c : Chunk} (hx : x.ok = true) (hk : c.kind = 1 ∨ c.kind = 2) : stepHello x false c = ((if c.kind = 2 then (x, 3) else if ¬ (0 ≤ x.state ∧ x.state ≤ 2) then (x, 3) else
    match getHello c with
    | none => (x, 4)
    | some h => if x.state = 0 then ({ x with state := 1, a := ⟨h.tag, h.streams, h.tsn, x.a.sent, x.a.acked⟩ }, 0) else if h.tag ≠ x.a.tag ∨ h.streams ≠ x.a.streams ∨ h.tsn ≠ x.a.first then (x, 7) else (x, 0)) : Assoc × Int) := by
  have hs := Assoc.ok_state hx
  obtain ⟨-, -, -, -, h5, -, h7, -⟩ := (assoc_iff x).1 hx
  have ht := Side.ok_tag h5
  by_cases k2 : c.kind = 2
  · rw [if_pos k2]; simp [stepHello, k2]
  · have k1 : c.kind = 1 := by omega
    rw [if_neg k2]
    by_cases q : 0 ≤ x.state ∧ x.state ≤ 2
    · rw [if_neg (by simpa using q)]
      by_cases q0 : x.state = 0
      · obtain ⟨-, -, z3, z4⟩ := (side_zero (s := x.a) (by omega)).1 h5
        cases hg : getHello c <;> simp [stepHello, k1, q0, hg, Assoc.with, Assoc.side, z3, z4]
      · rcases (by omega : x.state = 1 ∨ x.state = 2) with q1 | q1 <;> cases hg : getHello c <;> simp [stepHello, k1, q1, hg, Assoc.side]
    · rw [if_pos q]; simp [stepHello, k1]; intros; omega

theorem stepHello_T {x : Assoc} {c : Chunk} (hx : x.ok = true) (hk : c.kind = 1 ∨ c.kind = 2) : stepHello x true c = ((if ¬ c.kind = 2 then (x, 3) else if ¬ (1 ≤ x.state ∧ x.state ≤ 2) then (x, 3) else
    match getHello c with
    | none => (x, 4)
    | some h => if x.state = 1 then ({ x with state := 2, b := ⟨h.tag, h.streams, h.tsn, x.b.sent, x.b.acked⟩ }, 0) else if h.tag ≠ x.b.tag ∨ h.streams ≠ x.b.streams ∨ h.tsn ≠ x.b.first then (x, 7) else (x, 0)) : Assoc × Int) := by
  have hs := Assoc.ok_state hx
  obtain ⟨-, -, -, -, -, h5, -, h7, -⟩ := (assoc_iff x).1 hx
  have ht := Side.ok_tag h5
  by_cases k2 : c.kind = 2
  · rw [if_neg (by omega)]
    by_cases q : 1 ≤ x.state ∧ x.state ≤ 2
    · rw [if_neg (by simpa using q)]
      by_cases q0 : x.state = 1
      · obtain ⟨-, -, z3, z4⟩ := (side_zero (s := x.b) (by omega)).1 h5
        cases hg : getHello c <;> simp [stepHello, k2, q0, hg, Assoc.with, Assoc.side, z3, z4]
      · have q1 : x.state = 2 := by omega
        cases hg : getHello c <;> simp [stepHello, k2, q1, hg, Assoc.side]
    · rw [if_pos q]; simp [stepHello, k2]; intros; omega
  · rw [if_pos k2]; simp [stepHello, k2]
end

section
set_option maxRecDepth 20000
set_option maxHeartbeats 1000000
attribute [-simp] List.getD_eq_getElem?_getD

structure Keeps (x y : Assoc) (byB : Bool) : Prop where
  src : y.src = x.src
  dst : y.dst = x.dst
  state : x.state ≤ y.state
  aa : x.a.acked ≤ y.a.acked
  ba : x.b.acked ≤ y.b.acked
  asent : x.a.sent <+: y.a.sent
  bsent : x.b.sent <+: y.b.sent
  other : (y.other byB).sent = (x.other byB).sent
  mine : (y.side byB).acked = (x.side byB).acked
  tag : (y.other byB).tag = (x.other byB).tag

theorem Keeps.refl (x : Assoc) (byB : Bool) : Keeps x x byB :=
  ⟨rfl, rfl, Int.le_refl _, Int.le_refl _, Int.le_refl _, List.prefix_refl _, List.prefix_refl _, rfl, rfl, rfl⟩

theorem Keeps.trans {x y z : Assoc} {byB : Bool} (h : Keeps x y byB) (k : Keeps y z byB) : Keeps x z byB :=
  ⟨k.src.trans h.src, k.dst.trans h.dst, Int.le_trans h.state k.state, Int.le_trans h.aa k.aa, Int.le_trans h.ba k.ba, h.asent.trans k.asent, h.bsent.trans k.bsent, k.other.trans h.other, k.mine.trans h.mine, k.tag.trans h.tag⟩

theorem keeps_ite {x : Assoc} {byB : Bool} {c : Prop} [Decidable c] {u v : Assoc × Int} (h1 : c → Keeps x u.1 byB) (h2 : ¬ c → Keeps x v.1 byB) : Keeps x (if c then u else v).1 byB := by
  split
  · exact h1 ‹_›
  · exact h2 ‹_›

/-- Only the state, and who asked for the end, change. -/
theorem keeps_state (x : Assoc) (byB : Bool) {s : Int} {w : Bool} (h : x.state ≤ s) : Keeps x { x with state := s, byB := w } byB := by
  cases byB <;> exact ⟨rfl, rfl, h, Int.le_refl _, Int.le_refl _, List.prefix_refl _, List.prefix_refl _, rfl, rfl, rfl⟩

theorem stepHello_keeps {x : Assoc} (h : x.ok = true) (byB : Bool) {c : Chunk} (hk : c.kind = 1 ∨ c.kind = 2) : Keeps x (stepHello x byB c).1 byB := by
  cases byB
  · rw [stepHello_F h hk]
    refine keeps_ite (fun _ => Keeps.refl _ _) (fun _ => keeps_ite (fun _ => Keeps.refl _ _) (fun _ => ?_))
    cases getHello c with
    | none => exact Keeps.refl _ _
    | some d =>
      refine keeps_ite (fun q => ?_) (fun _ => keeps_ite (fun _ => Keeps.refl _ _) (fun _ => Keeps.refl _ _))
      exact ⟨rfl, rfl, by show x.state ≤ 1; omega, Int.le_refl _, Int.le_refl _, List.prefix_refl _, List.prefix_refl _, rfl, rfl, rfl⟩
  · rw [stepHello_T h hk]
    refine keeps_ite (fun _ => Keeps.refl _ _) (fun _ => keeps_ite (fun _ => Keeps.refl _ _) (fun _ => ?_))
    cases getHello c with
    | none => exact Keeps.refl _ _
    | some d =>
      refine keeps_ite (fun q => ?_) (fun _ => keeps_ite (fun _ => Keeps.refl _ _) (fun _ => Keeps.refl _ _))
      exact ⟨rfl, rfl, by show x.state ≤ 2; omega, Int.le_refl _, Int.le_refl _, List.prefix_refl _, List.prefix_refl _, rfl, rfl, rfl⟩

theorem stepPart_keeps (x : Assoc) (byB : Bool) (c : Chunk) : Keeps x (stepPart x byB c).1 byB := by
  unfold stepPart
  simp only
  split
  · exact Keeps.refl _ _
  · split
    · exact Keeps.refl _ _
    · refine keeps_ite (fun _ => Keeps.refl _ _) (fun _ => keeps_ite (fun _ => Keeps.refl _ _) (fun _ => keeps_ite (fun _ => Keeps.refl _ _) (fun _ => keeps_ite (fun _ => Keeps.refl _ _) (fun _ => keeps_ite (fun _ => Keeps.refl _ _) (fun _ => keeps_ite (fun _ => Keeps.refl _ _) (fun _ => ?_))))))
      cases byB
      · exact ⟨rfl, rfl, Int.le_refl _, Int.le_refl _, Int.le_refl _, List.prefix_append _ _, List.prefix_refl _, rfl, rfl, rfl⟩
      · exact ⟨rfl, rfl, Int.le_refl _, Int.le_refl _, Int.le_refl _, List.prefix_refl _, List.prefix_append _ _, rfl, rfl, rfl⟩

theorem stepSack_keeps (x : Assoc) (byB : Bool) (c : Chunk) : Keeps x (stepSack x byB c).1 byB := by
  rw [stepSack_eq]
  refine keeps_ite (fun _ => Keeps.refl _ _) (fun _ => ?_)
  cases getSack c with
  | none => exact Keeps.refl _ _
  | some k =>
    refine keeps_ite (fun _ => Keeps.refl _ _) (fun _ => ?_)
    generalize diffS (addS (x.other byB).first (-1)) k.cum = f
    cases byB
    · exact ⟨rfl, rfl, Int.le_refl _, Int.le_refl _, by show x.b.acked ≤ max x.b.acked f; omega, List.prefix_refl _, List.prefix_refl _, rfl, rfl, rfl⟩
    · exact ⟨rfl, rfl, Int.le_refl _, by show x.a.acked ≤ max x.a.acked f; omega, Int.le_refl _, List.prefix_refl _, List.prefix_refl _, rfl, rfl, rfl⟩

theorem stepEnd_keeps (x : Assoc) (byB : Bool) (k : Int) : Keeps x (stepEnd x byB k).1 byB := by
  unfold stepEnd
  simp only
  repeat' split
  all_goals first
    | exact Keeps.refl _ _
    | exact keeps_state x byB (by omega)

theorem stepCookie_keeps (x : Assoc) (byB : Bool) (k : Int) : Keeps x (stepCookie x byB k).1 byB := by
  unfold stepCookie
  repeat' split
  all_goals first
    | exact Keeps.refl _ _
    | exact keeps_state x byB (by omega)

theorem stepC_keeps {x : Assoc} (h : x.ok = true) (byB : Bool) (c : Chunk) : Keeps x (stepC x byB c).1 byB := by
  unfold stepC
  refine keeps_ite (fun q => stepHello_keeps h byB q) (fun _ => keeps_ite (fun _ => stepPart_keeps x byB c) (fun _ => keeps_ite (fun _ => stepSack_keeps x byB c) (fun _ => keeps_ite (fun _ => stepEnd_keeps x byB _) (fun _ => stepCookie_keeps x byB _))))

theorem stepAll_keeps (byB : Bool) : ∀ (l : List Chunk) {x : Assoc} (r : List Int), x.ok = true → Keeps x (stepAll byB l x r).1 byB
  | [], x, r, h => Keeps.refl _ _
  | c :: l, x, r, h => (stepC_keeps h byB c).trans (stepAll_keeps byB l _ (stepC_ok h byB c))

theorem rules_mem {x : Assoc} {byB : Bool} {p : Packet} {k : Int} : k ∈ rulesS x byB p ↔ (1 ≤ k ∧ k ≤ 11) ∧ ((k = 1 ∧ p.alone = false) ∨ (k = 2 ∧ p.tag ≠ tagS x byB p) ∨ k ∈ (stepAll byB p.chunks x []).2) := by
  unfold rulesS
  rw [List.mem_filter]
  constructor
  · rintro ⟨h1, h2⟩
    obtain ⟨n, hn, rfl⟩ := List.mem_map.1 h1
    have hn2 := List.mem_range.1 hn
    simp only [Bool.and_eq_true, Bool.or_eq_true, decide_eq_true_eq, Bool.not_eq_true'] at h2
    refine ⟨⟨h2.1, by show (n : Int) ≤ 11; omega⟩, ?_⟩
    rcases h2.2 with (h | h) | h
    · exact Or.inl h
    · exact Or.inr (Or.inl h)
    · exact Or.inr (Or.inr h)
  · rintro ⟨⟨h1, h2⟩, h3⟩
    refine ⟨List.mem_map.2 ⟨k.toNat, List.mem_range.2 (by omega), by show ((k.toNat : Nat) : Int) = k; omega⟩, ?_⟩
    simp only [Bool.and_eq_true, Bool.or_eq_true, decide_eq_true_eq, Bool.not_eq_true']
    refine ⟨h1, ?_⟩
    rcases h3 with h | h | h
    · exact Or.inl (Or.inl h)
    · exact Or.inl (Or.inr h)
    · exact Or.inr h

theorem rules_sorted (x : Assoc) (byB : Bool) (p : Packet) : (rulesS x byB p).Pairwise (· < ·) := by
  unfold rulesS
  refine List.Pairwise.filter _ ?_
  rw [List.pairwise_map]
  exact List.pairwise_lt_range.imp fun h => Int.ofNat_lt.2 h

theorem rules_eq {x : Assoc} {byB : Bool} {p : Packet} {q : Int → Bool} (h : ∀ k : Int, 1 ≤ k → k ≤ 11 → (((k = 1 ∧ p.alone = false) ∨ (k = 2 ∧ p.tag ≠ tagS x byB p) ∨ k ∈ (stepAll byB p.chunks x []).2) ↔ q k = true)) :
    rulesS x byB p = ((List.range 12).map Int.ofNat).filter fun k => decide (1 ≤ k) && q k := by
  unfold rulesS
  refine List.filter_congr fun k hk => ?_
  obtain ⟨n, hn, rfl⟩ := List.mem_map.1 hk
  have hn2 := List.mem_range.1 hn
  rw [Bool.eq_iff_iff]
  simp only [Bool.and_eq_true, Bool.or_eq_true, decide_eq_true_eq, Bool.not_eq_true']
  constructor
  · rintro ⟨h1, h2⟩
    refine ⟨h1, (h _ h1 (by show (n : Int) ≤ 11; omega)).1 ?_⟩
    rcases h2 with (h | h) | h
    · exact Or.inl h
    · exact Or.inr (Or.inl h)
    · exact Or.inr (Or.inr h)
  · rintro ⟨h1, h2⟩
    refine ⟨h1, ?_⟩
    rcases (h _ h1 (by show (n : Int) ≤ 11; omega)).2 h2 with h | h | h
    · exact Or.inl (Or.inl h)
    · exact Or.inl (Or.inr h)
    · exact Or.inr h

theorem filter_one {r : Int} (hr : 0 ≤ r ∧ r ≤ 11) : (((List.range 12).map Int.ofNat).filter fun k => decide (1 ≤ k) && decide (k = r)) = if r = 0 then [] else [r] := by
  have : r = 0 ∨ r = 1 ∨ r = 2 ∨ r = 3 ∨ r = 4 ∨ r = 5 ∨ r = 6 ∨ r = 7 ∨ r = 8 ∨ r = 9 ∨ r = 10 ∨ r = 11 := by omega
  rcases this with rfl | rfl | rfl | rfl | rfl | rfl | rfl | rfl | rfl | rfl | rfl | rfl <;> decide

/-- The rules of a packet with one chunk and the right tag. -/
theorem rules_one {x : Assoc} {byB : Bool} {p : Packet} {c : Chunk} (hc : p.chunks = [c]) (ha : p.alone = true) (ht : p.tag = tagS x byB p) : rulesS x byB p = if (stepC x byB c).2 = 0 then [] else [(stepC x byB c).2] := by
  rw [rules_eq (q := fun k => decide (k = (stepC x byB c).2)), filter_one (stepC_rule x byB c)]
  intro k _ _
  rw [hc, ha]
  simp [stepAll, ← ht]

theorem alone_one {p : Packet} {c : Chunk} (hc : p.chunks = [c]) (ho : p.ok = true) : p.alone = true := by
  unfold Packet.alone
  rw [ho, hc]
  simp

theorem packet_ok {p : Packet} : p.ok = true ↔ (∀ c ∈ p.chunks, c.ok = true) ∧ (1 ≤ p.src ∧ p.src ≤ 65535) ∧ (1 ≤ p.dst ∧ p.dst ≤ 65535) ∧ p.src ≠ p.dst ∧ (0 ≤ p.tag ∧ p.tag ≤ 4294967295) ∧ 1 ≤ p.chunks.length ∧ p.chunks.length ≤ 4 := by
  simp only [Packet.ok, inB, Bool.and_eq_true, decide_eq_true_eq, List.all_eq_true]
  constructor
  · rintro ⟨⟨⟨⟨⟨h1, h2⟩, h3⟩, h4⟩, h5⟩, h6⟩
    exact ⟨h1, h2, h3, h4, h5, by omega, by omega⟩
  · rintro ⟨h1, h2, h3, h4, h5, h6, h7⟩
    exact ⟨⟨⟨⟨⟨h1, h2⟩, h3⟩, h4⟩, h5⟩, by omega, by omega⟩

theorem mine_iff {x : Assoc} {p : Packet} : mineS x p = true ↔ x.ok = true ∧ p.ok = true ∧ ((p.src = x.dst ∧ p.dst = x.src) ∨ (p.src = x.src ∧ p.dst = x.dst)) := by
  simp [mineS, byBS, and_assoc]

theorem stepS_mine {x : Assoc} {p : Packet} (h : mineS x p = true) : stepS x p = if rulesS x (byBS x p) p = [] then ((stepAll (byBS x p) p.chunks x []).1, []) else (x, rulesS x (byBS x p) p) := by
  unfold stepS; rw [if_pos h]

theorem stepS_other {x : Assoc} {p : Packet} (h : mineS x p = false) : stepS x p = (zAssoc, []) := by
  unfold stepS; rw [if_neg (by simp [h])]

theorem stepS_rules {x : Assoc} {p : Packet} (h : mineS x p = true) : (stepS x p).2 = rulesS x (byBS x p) p := by
  rw [stepS_mine h]
  split
  · exact (‹rulesS x (byBS x p) p = []›).symm
  · rfl

theorem stepS_ok {x : Assoc} {p : Packet} (h : mineS x p = true) : (stepS x p).1.ok = true := by
  rw [stepS_mine h]
  split
  · exact stepAll_ok _ _ _ (mine_iff.1 h).1
  · exact (mine_iff.1 h).1

theorem stepS_keeps {x : Assoc} {p : Packet} (h : mineS x p = true) : Keeps x (stepS x p).1 (byBS x p) := by
  rw [stepS_mine h]
  split
  · exact stepAll_keeps _ _ _ (mine_iff.1 h).1
  · exact Keeps.refl _ _

end

end Go.Proofs.YtnhhcfbigjpfeaaGreatDoor
