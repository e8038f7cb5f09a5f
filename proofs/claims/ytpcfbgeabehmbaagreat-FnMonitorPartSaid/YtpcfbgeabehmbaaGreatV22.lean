/-
  Packets in bytes.
  Packets written; packets drawn.
  One chunk, by the program: what a side tells first.
-/
import Derived.Test.YtpcfbgeabehmbaaGreatV21
import Derived.Test.YtpcfbgeabehmbaaGreatV20
namespace Go.Proofs.YtpcfbgeabehmbaaGreat
set_option linter.all false

section
set_option maxRecDepth 200000
set_option maxHeartbeats 4000000
attribute [-simp] List.getD_eq_getElem?_getD

/-- The chunks from a place on. -/
def chunksAt (s : List UInt8) : Nat → Nat → List Chunk → Option (List Chunk)
  | 0, _, acc => some acc
  | f + 1, i, acc => if i < s.length then (match chunkAt s i with
    | none => none
    | some (c, j) => chunksAt s f j (acc ++ [c])) else some acc

theorem chunkAt_some {s : List UInt8} {i j : Nat} {c : Chunk} (h : chunkAt s i = some (c, j)) : i + 4 ≤ j ∧ j ≤ s.length ∧ c.ok = true := by
  unfold chunkAt at h
  split at h
  · rename_i q
    obtain ⟨n, hn⟩ := Int.eq_ofNat_of_zero_le (at16_lt s (i + 2)).1
    rw [hn] at h q
    simp at h q
    obtain ⟨rfl, rfl⟩ := h
    have := (putC_of (s := s) (i := i) (n := n) q.1 hn (by omega) (by omega)).2.2
    exact ⟨by omega, by omega, this⟩
  · cases h

def packOf (s : List UInt8) (cs : List Chunk) : Packet := ⟨at16 s 0, at16 s 2, at32 s 4, cs⟩

/-- The packet that bytes hold, and what they are. -/
def getP (s : List UInt8) : Packet × Int :=
  if s.length < 12 then (zPacket, 1) else
  if at32 s 8 ≠ sumP s then (zPacket, 2) else
  match chunksAt s s.length 12 [] with
  | none => (zPacket, 3)
  | some cs => if (packOf s cs).ok then (packOf s cs, 0) else (zPacket, 3)

theorem zPacket_v : zPacket.v = .agg [.int .i64 0, .int .i64 0, .int .i64 0, .sl none 3 []] := rfl
theorem packOf_v (s : List UInt8) (cs : List Chunk) : (packOf s cs).v = .agg [.int .i64 (at16 s 0), .int .i64 (at16 s 2), .int .i64 (at32 s 4), .sl none 3 (cs.map Chunk.v)] := rfl
def resP (r : Packet × Int) : V := .tup [r.1.v, .int .i64 r.2]

theorem spec_PacketGet_ok (s : List UInt8) (hs : s.length ≤ 1000000) : Fn Tryz.prog fn_spec_PacketGet [.str s] [] (resP (getP s)) [] := by
  refine Fn.of_go ln_spec_PacketGet rfl ?_
  simp [ac_spec_PacketGet]
  refine goTest_dec (fun q1 => ?_) (fun q1 => ?_)
  · have e : getP s = (zPacket, 1) := by unfold getP; rw [if_pos (by omega)]
    rw [e]
    simp [q1]
    exact Ends.mk [] [] (by simp [resP, zPacket_v])
  have f0 := l1At_ok s 0 (by omega) (by omega)
  have f2 := l1At_ok s 2 (by omega) (by omega)
  have f4 := l1At_ok s 4 (by omega) (by omega)
  have f6 := l1At_ok s 6 (by omega) (by omega)
  have f8 := l1At_ok s 8 (by omega) (by omega)
  have f10 := l1At_ok s 10 (by omega) (by omega)
  have fs := l13Sum_ok s (by omega) (by omega)
  have b0 := at16_lt s 0
  have b2 := at16_lt s 2
  have b4 := at16_lt s 4
  have b6 := at16_lt s 6
  have b8 := at16_lt s 8
  have b10 := at16_lt s 10
  have h32 : at32 s 8 = 65536 * at16 s 8 + at16 s 10 := rfl
  have h34 : at32 s 4 = 65536 * at16 s 4 + at16 s 6 := rfl
  simp at f0 f2 f4 f6 f8 f10
  simp [q1]
  refine goCall_eq f8 (by simp) ?_
  simp
  refine ⟨by omega, ?_⟩
  refine goCall_eq f10 (by simp) ?_
  simp
  refine ⟨by omega, ?_⟩
  refine goCall_eq fs (by simp) ?_
  simp
  rw [← h32]
  refine goTest_dec (fun q2 => ?_) (fun q2 => ?_)
  · simp [q2]
    refine goCall_eq f0 (by simp) ?_
    simp
    refine goCall_eq f2 (by simp) ?_
    simp
    refine goCall_eq f4 (by simp) ?_
    simp
    refine ⟨by omega, ?_⟩
    refine goCall_eq f6 (by simp) ?_
    simp
    refine ⟨by omega, ?_⟩
    rw [← h34]
    obtain ⟨tot, htot⟩ : ∃ tot, chunksAt s s.length 12 [] = tot := ⟨_, rfl⟩
    have he3 : tot = none → getP s = (zPacket, 3) := fun h => by
      unfold getP; rw [if_neg (by omega), if_neg (by simpa using q2), htot, h]
    have he4 : ∀ {cs}, tot = some cs → getP s = if (packOf s cs).ok then (packOf s cs, 0) else (zPacket, 3) := fun h => by
      unfold getP; rw [if_neg (by omega), if_neg (by simpa using q2), htot, h]
    refine go_loop (fun x : Nat × Nat × List Chunk => { env := [(0, .str s), (2, .ptr 2 0), (4, .ptr 4 0), (5, .int .i64 (x.2.1 : Nat))], loc := [], box := [(2, List.replicate 4 .undef), (4, [.int .i64 (at16 s 0), .int .i64 (at16 s 2), .int .i64 (at32 s 4), .sl (some 0) 3 (x.2.2.map Chunk.v)])], stat := [(0, some (.own x.2.2.length 3))] })
      (fun x => chunksAt s x.1 x.2.1 x.2.2 = tot ∧ s.length ≤ x.2.1 + x.1 ∧ 12 ≤ x.2.1 ∧ x.2.1 ≤ s.length ∧ x.2.2.length ≤ x.2.1) (fun x => s.length - x.2.1) (s.length, 12, []) ⟨htot, by simp, by simp, by simp; omega, by simp⟩ (Weak.of [(0, some 528, 0, 3)] [(2, 2), (4, 4)] (by simp [List.replicate])) ?_
    rintro ⟨f, i, acc⟩ ⟨hc, hf, h12, hil, hal⟩
    simp at hc hf h12 hil hal
    simp
    refine goTest_dec (fun hlt => ?_) (fun hge => ?_)
    · have g1 := spec_ChunkGet_ok s i hs (by omega)
      obtain ⟨f, rfl⟩ : ∃ g, f = g + 1 := ⟨f - 1, by omega⟩
      simp only [chunksAt] at hc
      rw [if_pos hlt] at hc
      cases hk : chunkAt s i with
      | none =>
        rw [hk] at g1 hc
        simp [optC, zChunk_v] at g1
        simp at hc
        simp
        refine goCall_eq g1 (by simp) ?_
        simp
        rw [he3 hc.symm]
        exact Ends.mk [] [] (by simp [resP, zPacket_v])
      | some z =>
        obtain ⟨c, j⟩ := z
        rw [hk] at g1 hc
        obtain ⟨j1, j2, -⟩ := chunkAt_some hk
        simp [optC, chunk_v] at g1
        simp at hc
        simp
        refine goCall_eq g1 (by simp) ?_
        simp
        refine ⟨by unfold roomOk; omega, Again.mk (f, j, acc ++ [c]) ⟨hc, by simp; omega, by simp; omega, by simp; omega, by simp; omega⟩ (by simp; omega) (Weak.of [(0, some 0, acc.length + 1, 3)] [(2, 2), (4, 4)] ?_)⟩
        simp [chunk_v]
    · have hta : some acc = tot := by
        rw [← hc]
        cases f with
        | zero => rfl
        | succ f => simp only [chunksAt]; rw [if_neg (by omega)]
      have g2 := spec_PacketValid_ok (packOf s acc) (by simp [packOf]; omega)
      simp only [packOf_v] at g2
      simp
      refine goCall_gen [] [] [] [0] none g2 (by simp) ?_
      simp
      rw [he4 hta.symm]
      cases hok : (packOf s acc).ok
      · simp
        exact Ends.mk [] [] (by simp [resP, zPacket_v])
      · simp
        exact Ends.mk [] [] (by simp [resP, packOf_v])
  · have e : getP s = (zPacket, 2) := by unfold getP; rw [if_neg (by omega), if_pos q2]
    rw [e]
    simp [q2]
    exact Ends.mk [] [] (by simp [resP, zPacket_v])

theorem impl_PacketGet_ok (s : List UInt8) (hs : s.length ≤ 1000000) : Fn Tryz.prog fn_impl_PacketGet [.str s] [] (resP (getP s)) [] := by
  refine Fn.of_go ln_impl_PacketGet rfl ?_
  simp [ac_impl_PacketGet]
  refine goTest_dec (fun q1 => ?_) (fun q1 => ?_)
  · have e : getP s = (zPacket, 1) := by unfold getP; rw [if_pos (by omega)]
    rw [e]
    simp [q1]
    exact Ends.mk [] [] (by simp [resP, zPacket_v])
  have f0 := WordGet_ok s 0 (by omega) (by omega)
  have f2 := WordGet_ok s 2 (by omega) (by omega)
  have f4 := LongGet_ok s 4 (by omega) (by omega)
  have f8 := LongGet_ok s 8 (by omega) (by omega)
  have fs := SumText_ok (s.take 8 ++ 0 :: 0 :: 0 :: 0 :: s.drop 12) (by simp; omega)
  rw [show sumS (s.take 8 ++ 0 :: 0 :: 0 :: 0 :: s.drop 12) = sumP s from rfl] at fs
  simp at f0 f2 f4 f8
  simp [q1]
  refine goCall_eq f8 (by simp) ?_
  simp
  repeat' (first | (refine And.intro (by first | omega | (simp; omega)) ?_))
  refine goDCall_eq fs (by simp) (by simp) ?_
  simp
  rw [show (decide (sumP s = at32 s 8)) = decide (at32 s 8 = sumP s) from by rw [decide_eq_decide]; exact eq_comm]
  refine goTest_dec (fun q2 => ?_) (fun q2 => ?_)
  · simp [q2]
    refine goCall_eq f0 (by simp) ?_
    simp
    refine goCall_eq f2 (by simp) ?_
    simp
    refine goCall_eq f4 (by simp) ?_
    simp
    obtain ⟨tot, htot⟩ : ∃ tot, chunksAt s s.length 12 [] = tot := ⟨_, rfl⟩
    have he3 : tot = none → getP s = (zPacket, 3) := fun h => by
      unfold getP; rw [if_neg (by omega), if_neg (by simpa using q2), htot, h]
    have he4 : ∀ {cs}, tot = some cs → getP s = if (packOf s cs).ok then (packOf s cs, 0) else (zPacket, 3) := fun h => by
      unfold getP; rw [if_neg (by omega), if_neg (by simpa using q2), htot, h]
    refine go_loop (fun x : Nat × Nat × List Chunk => { env := [(0, .str s), (2, .ptr 2 0), (6, .ptr 6 0), (7, .int .i64 (x.2.1 : Nat))], loc := [], box := [(2, List.replicate 4 .undef), (6, [.int .i64 (at16 s 0), .int .i64 (at16 s 2), .int .i64 (at32 s 4), .sl (some 0) 3 (x.2.2.map Chunk.v)])], stat := [(0, some (.own x.2.2.length 3))] })
      (fun x => chunksAt s x.1 x.2.1 x.2.2 = tot ∧ s.length ≤ x.2.1 + x.1 ∧ 12 ≤ x.2.1 ∧ x.2.1 ≤ s.length ∧ x.2.2.length ≤ x.2.1) (fun x => s.length - x.2.1) (s.length, 12, []) ⟨htot, by simp, by simp, by simp; omega, by simp⟩ (Weak.of [(0, none, 0, 3)] [(2, 2), (6, 6)] (by simp [List.replicate])) ?_
    rintro ⟨f, i, acc⟩ ⟨hc, hf, h12, hil, hal⟩
    simp at hc hf h12 hil hal
    simp
    refine goTest_dec (fun hlt => ?_) (fun hge => ?_)
    · have g1 := impl_ChunkGet_ok s i hs (by omega)
      obtain ⟨f, rfl⟩ : ∃ g, f = g + 1 := ⟨f - 1, by omega⟩
      simp only [chunksAt] at hc
      rw [if_pos hlt] at hc
      cases hk : chunkAt s i with
      | none =>
        rw [hk] at g1 hc
        simp [optC, zChunk_v] at g1
        simp at hc
        simp
        refine goCall_eq g1 (by simp) ?_
        simp
        rw [he3 hc.symm]
        exact Ends.mk [] [] (by simp [resP, zPacket_v])
      | some z =>
        obtain ⟨c, j⟩ := z
        rw [hk] at g1 hc
        obtain ⟨j1, j2, -⟩ := chunkAt_some hk
        simp [optC, chunk_v] at g1
        simp at hc
        simp
        refine goCall_eq g1 (by simp) ?_
        simp
        refine ⟨by unfold roomOk; omega, Again.mk (f, j, acc ++ [c]) ⟨hc, by simp; omega, by simp; omega, by simp; omega, by simp; omega⟩ (by simp; omega) (Weak.of [(0, some 0, acc.length + 1, 3)] [(2, 2), (6, 6)] ?_)⟩
        simp [chunk_v]
    · have hta : some acc = tot := by
        rw [← hc]
        cases f with
        | zero => rfl
        | succ f => simp only [chunksAt]; rw [if_neg (by omega)]
      have g2 := impl_PacketValid_ok (packOf s acc) (by simp [packOf]; omega)
      simp only [packOf_v] at g2
      simp
      refine goCall_gen [] [] [] [0] none g2 (by simp) ?_
      simp
      rw [he4 hta.symm]
      cases hok : (packOf s acc).ok
      · simp
        exact Ends.mk [] [] (by simp [resP, zPacket_v])
      · simp
        exact Ends.mk [] [] (by simp [resP, packOf_v])
  · have e : getP s = (zPacket, 2) := by unfold getP; rw [if_neg (by omega), if_pos q2]
    rw [e]
    simp [q2]
    exact Ends.mk [] [] (by simp [resP, zPacket_v])
end

section
set_option maxRecDepth 200000
set_option maxHeartbeats 4000000
attribute [-simp] List.getD_eq_getElem?_getD

theorem packet_bd {p : Packet} (h : p.ok = true) : (1 ≤ p.src ∧ p.src ≤ 65535) ∧ (1 ≤ p.dst ∧ p.dst ≤ 65535) ∧ (0 ≤ p.tag ∧ p.tag ≤ 4294967295) ∧ (1 ≤ p.chunks.length ∧ p.chunks.length ≤ 4) ∧ (∀ c ∈ p.chunks, c.ok = true) ∧ p.src ≠ p.dst := by
  simp only [Packet.ok, inB, Bool.and_eq_true, decide_eq_true_eq, List.all_eq_true] at h
  obtain ⟨⟨⟨⟨⟨h1, h2⟩, h3⟩, h4⟩, h5⟩, h6⟩ := h
  exact ⟨h2, h3, h5, by omega, h1, h4⟩

/-- The bytes of a packet, with a checksum of 0. -/
def headI (p : Packet) (i : Nat) : List UInt8 := put16 p.src ++ (put16 p.dst ++ (put32 p.tag ++ (0 :: 0 :: 0 :: 0 :: (p.chunks.take i).flatMap putC)))
def headP (p : Packet) : List UInt8 := headI p p.chunks.length
/-- The bytes of a packet. -/
def textP (p : Packet) : List UInt8 := if p.ok then (headP p).take 8 ++ (put32 (sumP (headP p)) ++ (headP p).drop 12) else []
theorem headI_snoc {p : Packet} {i : Nat} (h : i < p.chunks.length) : headI p (i + 1) = headI p i ++ putC (nth p.chunks i) := by
  simp [headI, take_nth h]
theorem headI_len {p : Packet} (h : ∀ c ∈ p.chunks, c.ok = true) : ∀ i : Nat, i ≤ p.chunks.length → 12 ≤ (headI p i).length ∧ (headI p i).length ≤ 12 + 64 * i
  | 0, _ => by simp [headI, put16_len, put32_len]
  | i + 1, hi => by
    have ih := headI_len h i (by omega)
    have hc := h _ (nth_mem (show i < p.chunks.length by omega))
    have hcb : (nth p.chunks i).body.length ≤ 60 := by simp only [Chunk.ok, Bool.and_eq_true, decide_eq_true_eq] at hc; exact hc.2
    rw [headI_snoc (by omega), List.length_append, putC_len]
    omega
theorem sumP_rng (s : List UInt8) : 0 ≤ sumP s ∧ sumP s ≤ 4294967295 := by
  have := sumF_lt (s.take 8 ++ 0 :: 0 :: 0 :: 0 :: s.drop 12) (1, 0) (by simp) (by simp)
  unfold sumP sumS
  omega
theorem l13Put_ok (p : Packet) (hp : p.ok = true) : Fn Tryz.prog fn_spec_l13Put [p.v] [] (.str (textP p)) [] := by
  refine Fn.of_go ln_spec_l13Put rfl ?_
  obtain ⟨h1, h2, h3, h4, h5, -⟩ := packet_bd hp
  obtain ⟨a, ha⟩ := Int.eq_ofNat_of_zero_le (show 0 ≤ p.src by omega)
  obtain ⟨b, hb⟩ := Int.eq_ofNat_of_zero_le (show 0 ≤ p.dst by omega)
  obtain ⟨g, hg⟩ := Int.eq_ofNat_of_zero_le h3.1
  have f1 := l1Word_ok a (by omega)
  have f2 := l1Word_ok b (by omega)
  have f3 := l1Long_ok g (by omega)
  have h0 : headI p 0 = put16 a ++ (put16 b ++ (put32 g ++ [0, 0, 0, 0])) := by simp [headI, ha, hb, hg]
  simp [ac_spec_l13Put, packet_v, ha, hb, hg]
  refine goDCall_eq f1 (by simp) (by simp) ?_
  simp
  refine goDCall_eq f2 (by simp) (by simp) ?_
  simp
  repeat' (first | (refine And.intro (by simp [put16_len]) ?_))
  refine goDCall_eq f3 (by simp) (by simp) ?_
  simp
  repeat' (first | (refine And.intro (by simp [put16_len, put32_len]) ?_))
  refine go_loop (fun i : Nat => { env := [(1, .ptr 1 0), (3, .str (headI p i)), (4, .int .i64 (i : Nat))], loc := [], box := [(1, [.undef, .undef, .undef, .sl none 3 (p.chunks.map Chunk.v)])], stat := [] }) (fun i => i ≤ p.chunks.length) (fun i => p.chunks.length - i) 0 (by omega) (Weak.of [] [(1, 1)] (by simp [h0])) ?_
  intro i hi
  have hlen := headI_len h5 i hi
  simp
  refine goTest_dec (fun hlt => ?_) (fun hge => ?_)
  · have hc := h5 _ (nth_mem hlt)
    have g1 := l11Put_ok _ hc
    have hL := putC_len (nth p.chunks i)
    have hcb : (nth p.chunks i).body.length ≤ 60 := by simp only [Chunk.ok, Bool.and_eq_true, decide_eq_true_eq] at hc; exact hc.2
    have hs := headI_snoc hlt
    simp only [chunk_v] at g1
    simp [hlt, chunk_v]
    refine goCall_eq g1 (by simp) ?_
    simp
    refine ⟨by omega, by omega, Again.mk (i + 1) hlt (by omega) (Weak.of [] [(1, 1)] (by simp [hs]))⟩
  · obtain rfl : i = p.chunks.length := by omega
    have g1 := l13Sum_ok (headI p p.chunks.length) (by omega) (by omega)
    have hsr := sumP_rng (headI p p.chunks.length)
    have ht : textP p = (headI p p.chunks.length).take 8 ++ (put32 (sumP (headI p p.chunks.length)) ++ (headI p p.chunks.length).drop 12) := by unfold textP; rw [if_pos hp]; rfl
    obtain ⟨m, hm⟩ := Int.eq_ofNat_of_zero_le hsr.1
    rw [ht]
    rw [hm] at g1 ⊢
    have g2 := l1Long_ok m (by omega)
    simp
    repeat' (first | (refine And.intro (by omega) ?_))
    refine goDCall_eq g1 (by simp) (by simp) ?_
    simp
    refine goDCall_eq g2 (by simp) (by simp) ?_
    simp
    repeat' (first | (refine And.intro (by first | omega | (simp [put32_len]; omega)) ?_))
    exact Ends.mk [] [] (by simp)

theorem spec_PacketPut_ok (p : Packet) (hp : p.chunks.length ≤ 1000000) : Fn Tryz.prog fn_spec_PacketPut [p.v] [] (.str (textP p)) [] := by
  refine Fn.of_go ln_spec_PacketPut rfl ?_
  have f1 := spec_PacketValid_ok p hp
  simp only [packet_v] at f1
  simp [ac_spec_PacketPut, packet_v]
  refine goCall_eq f1 (by simp) ?_
  simp
  cases hok : p.ok
  · have ht : textP p = [] := by unfold textP; rw [if_neg (by simp [hok])]
    rw [ht]
    simp
    exact Ends.mk [] [] (by simp)
  · simp
    have f2 := l13Put_ok p hok
    simp only [packet_v] at f2
    refine goCall_eq f2 (by simp) ?_
    simp
    exact Ends.mk [] [] (by simp)

/-- A packet that was drawn. -/
inductive PkR (src : List UInt8) (a k : Int) : V → List (List V) → Prop
  | mk (p : Packet) (b : Int) (h : p.chunks.length ≤ 9) (h2 : ∀ c ∈ p.chunks, c.body.length ≤ 1000) (hb : a ≤ b ∧ b ≤ a + k) : PkR src a k p.v [[bsl src, .int .i64 b]]

theorem snoc_mem {α : Type} {P : α → Prop} {l : List α} {x : α} (h : ∀ c ∈ l, P c) (hx : P x) : ∀ c ∈ l ++ [x], P c := by
  intro c hc
  rcases List.mem_append.1 hc with q | q
  · exact h c q
  · obtain rfl := List.mem_singleton.1 q
    exact hx

end

section
set_option maxRecDepth 200000
set_option maxHeartbeats 4000000
attribute [-simp] List.getD_eq_getElem?_getD


theorem own_c (x : Assoc) : x.own 0 1 = [.int .i64 x.src, .int .i64 x.dst, .int .i64 x.state, .bool x.byB, .int .i64 x.a.tag, .int .i64 x.a.streams, .int .i64 x.a.first, .sl (some 0) 7 (x.a.sent.map Part.v), .int .i64 x.a.acked, .int .i64 x.b.tag, .int .i64 x.b.streams, .int .i64 x.b.first, .sl (some 1) 7 (x.b.sent.map Part.v), .int .i64 x.b.acked] := rfl

theorem EndsO_ite {rs : List ARes} {st : St} {c : Prop} [Decidable c] {a b : Assoc × Int} (h1 : c → Ends rs (.int .i64 a.2) [a.1.own 0 1] st) (h2 : ¬ c → Ends rs (.int .i64 b.2) [b.1.own 0 1] st) : Ends rs (.int .i64 (if c then a else b).2) [(if c then a else b).1.own 0 1] st := by
  split
  · exact h1 ‹_›
  · exact h2 ‹_›

theorem stepHello_F {x : Assoc} {c : Chunk} (hx : x.ok = true) (hk : c.kind = 1 ∨ c.kind = 2) : stepHello x false c = ((if c.kind = 2 then (x, 3) else if ¬ (0 ≤ x.state ∧ x.state ≤ 2) then (x, 3) else
    match getHello c with
    | none => (x, 4)
    | some h => if x.state = 0 then ({ x with state := 1, a := ⟨h.tag, h.streams, h.tsn, x.a.sent, x.a.acked⟩ }, 0) else if h.tag ≠ x.a.tag ∨ h.streams ≠ x.a.streams ∨ h.tsn ≠ x.a.first then (x, 7) else (x, 0)) : Assoc × Int) := by
  have hs := Assoc.ok_state hx
  obtain ⟨-, -, -, -, h5, -, h7, -⟩ := (assoc_iff x).1 hx
  have ht := Side.ok_tag h5
  by_cases k2 : c.kind = 2
  · rw [if_pos k2]; simp [stepHello, k2]
  · have k1 : c.kind = 1 := by omega
    rw [if_neg k2]
    by_cases q : 0 ≤ x.state ∧ x.state ≤ 2
    · rw [if_neg (by simpa using q)]
      by_cases q0 : x.state = 0
      · obtain ⟨-, -, z3, z4⟩ := (side_zero (s := x.a) (by omega)).1 h5
        cases hg : getHello c <;> simp [stepHello, k1, q0, hg, Assoc.with, Assoc.side, z3, z4]
      · rcases (by omega : x.state = 1 ∨ x.state = 2) with q1 | q1 <;> cases hg : getHello c <;> simp [stepHello, k1, q1, hg, Assoc.side]
    · rw [if_pos q]; simp [stepHello, k1]; intros; omega

theorem stepHello_T {x : Assoc} {c : Chunk} (hx : x.ok = true) (hk : c.kind = 1 ∨ c.kind = 2) : stepHello x true c = ((if ¬ c.kind = 2 then (x, 3) else if ¬ (1 ≤ x.state ∧ x.state ≤ 2) then (x, 3) else
    match getHello c with
    | none => (x, 4)
    | some h => if x.state = 1 then ({ x with state := 2, b := ⟨h.tag, h.streams, h.tsn, x.b.sent, x.b.acked⟩ }, 0) else if h.tag ≠ x.b.tag ∨ h.streams ≠ x.b.streams ∨ h.tsn ≠ x.b.first then (x, 7) else (x, 0)) : Assoc × Int) := by
  have hs := Assoc.ok_state hx
  obtain ⟨-, -, -, -, -, h5, -, h7, -⟩ := (assoc_iff x).1 hx
  have ht := Side.ok_tag h5
  by_cases k2 : c.kind = 2
  · rw [if_neg (by omega)]
    by_cases q : 1 ≤ x.state ∧ x.state ≤ 2
    · rw [if_neg (by simpa using q)]
      by_cases q0 : x.state = 1
      · obtain ⟨-, -, z3, z4⟩ := (side_zero (s := x.b) (by omega)).1 h5
        cases hg : getHello c <;> simp [stepHello, k2, q0, hg, Assoc.with, Assoc.side, z3, z4]
      · have q1 : x.state = 2 := by omega
        cases hg : getHello c <;> simp [stepHello, k2, q1, hg, Assoc.side]
    · rw [if_pos q]; simp [stepHello, k2]; intros; omega
  · rw [if_pos k2]; simp [stepHello, k2]

theorem greet_ok (x : Assoc) (byB : Bool) (c : Chunk) (hb : c.body.length ≤ 1000000) (hx : x.ok = true) (hk : c.kind = 1 ∨ c.kind = 2) :
    Fn Tryz.prog fn_impl_Assoc_greet [.ptr 1000 0, c.v, .bool byB, .ptr 1000 (if byB then 9 else 4)] [x.own 0 1] (.int .i64 (stepHello x byB c).2) [(stepHello x byB c).1.own 0 1] := by
  refine Fn.of_go ln_impl_Assoc_greet rfl ?_
  have f1 := impl_InitGet_ok c hb
  have hs := Assoc.ok_state hx
  simp only [chunk_v] at f1
  cases byB
  all_goals
    first | rw [stepHello_F hx hk] | rw [stepHello_T hx hk]
    cases hg : getHello c with
    | none =>
      rw [hg] at f1
      simp [optV, zHello_v] at f1
      simp [ac_impl_Assoc_greet, chunk_v, own_c]
      repeat' (first
        | (exfalso; omega)
        | (refine goTest_dec (fun q => ?_) (fun q => ?_) <;> simp [q])
        | (refine goCall_eq f1 (by simp) ?_; simp)
        | (rw [‹c.kind = _›] at f1; refine goCall_eq f1 (by simp) ?_; simp)
        | (refine EndsO_ite (fun q => ?_) (fun q => ?_))
        | (refine Ends.mk [(0, some 0, x.a.sent.length, 7), (1, some 1, x.b.sent.length, 7)] [(1000, 1000)] ?_; simp [own_c, *] <;> fail))
    | some h =>
      rw [hg] at f1
      simp [optV, hi_v] at f1
      simp [ac_impl_Assoc_greet, chunk_v, own_c]
      repeat' (first
        | (exfalso; omega)
        | (refine goTest_dec (fun q => ?_) (fun q => ?_) <;> simp [q])
        | (refine goCall_eq f1 (by simp) ?_; simp)
        | (rw [‹c.kind = _›] at f1; refine goCall_eq f1 (by simp) ?_; simp)
        | (refine And.intro (by omega) ?_)
        | (refine EndsO_ite (fun q => ?_) (fun q => ?_))
        | (refine Ends.mk [(0, some 0, x.a.sent.length, 7), (1, some 1, x.b.sent.length, 7)] [(1000, 1000)] ?_; simp [own_c, *] <;> fail))
end

end Go.Proofs.YtpcfbgeabehmbaaGreat
