/-
  A packet, by the reference.
  Draws of chunks, parts and packets.
  Draws of chunks and parts.
  Chunks in bytes.
  Packets in bytes.
-/
import Derived.Test.YtnhhcfbigjpfeaaGreatDoorQ21
namespace Go.Proofs.YtnhhcfbigjpfeaaGreatDoor
set_option linter.all false

section
set_option maxRecDepth 200000
set_option maxHeartbeats 2000000
attribute [-simp] List.getD_eq_getElem?_getD


def boolsV (f : Nat → Bool) : List V := (List.range 12).map fun k => V.bool (f k)
theorem boolsV_len (f : Nat → Bool) : (boolsV f).length = 12 := by simp [boolsV]
theorem setEl_bool {f : Nat → Bool} {i : Nat} {b : Bool} (h : i < 12) : setEl i 0 [.bool b] (boolsV f) = boolsV (fun k => if k = i then b else f k) := by
  unfold setEl
  have e : wrEl 0 [V.bool b] ((boolsV f).getD i .undef) = .bool b := by
    rw [show (boolsV f).getD i .undef = .bool (f i) by simp [boolsV, List.getD_eq_getElem?_getD, h]]
    rfl
  rw [e]
  refine List.ext_getElem (by simp [boolsV]) fun k h1 h2 => ?_
  simp [boolsV] at h1 ⊢
  rw [List.getElem_set]
  by_cases q : i = k
  · simp [q]
  · rw [if_neg q, if_neg (fun e => q e.symm)]; simp
theorem getD_bool {f : Nat → Bool} {i : Nat} (h : i < 12) : (boolsV f).getD i .undef = .bool (f i) := by
  simp [boolsV, List.getD_eq_getElem?_getD, h]

/-- Which rules are broken: by the packet as a whole, or by a chunk. -/
def brok0 (x : Assoc) (byB : Bool) (p : Packet) (k : Nat) : Bool := (decide (k = 1) && !p.alone) || (decide (k = 2) && decide (p.tag ≠ tagS x byB p))
def brokS (x : Assoc) (byB : Bool) (p : Packet) (r : List Int) (k : Nat) : Bool := brok0 x byB p k || decide ((k : Int) ∈ r)

theorem packet_v (p : Packet) : p.v = .agg [.int .i64 p.src, .int .i64 p.dst, .int .i64 p.tag, .sl none 3 (p.chunks.map Chunk.v)] := rfl

theorem l31Step_ok (x : Assoc) (byB : Bool) (p : Packet) (hx : x.ok = true) (hp : p.ok = true) : Fn Tryz.prog fn_spec_l31Step [x.v, .bool byB, p.v] []
    (.tup [(stepAll byB p.chunks x []).1.v, .sl none 1 (boolsV (brokS x byB p (stepAll byB p.chunks x []).2))]) [] := by
  refine Fn.of_go ln_spec_l31Step rfl ?_
  have hl : p.chunks.length ≤ 4 := by simp [Packet.ok, inB] at hp; omega
  have hbody : ∀ c ∈ p.chunks, c.body.length ≤ 1000000 := by
    intro c hc
    simp [Packet.ok] at hp
    have := hp.1.1.1.1.1 c hc
    simp [Chunk.ok] at this
    omega
  have f1 := spec_PacketAlone_ok p (by omega)
  have f2 := l31Tag_ok x byB p (by omega)
  simp only [assoc_v, packet_v] at f1 f2
  simp [ac_spec_l31Step, assoc_v, packet_v]
  refine ⟨by unfold roomOk; omega, ?_⟩
  refine goCall_eq f1 (by simp) ?_
  simp
  refine goDCall_eq f2 (by simp) (by simp) ?_
  simp [setEl, wrEl]
  refine go_loop (fun i => { env := [(1, .bool byB), (3, .ptr 3 0), (5, .ptr 5 0), (6, .ptr 6 0), (8, .sl (some 0) 1 (boolsV (brokS x byB p (stepAll byB (p.chunks.take i) x []).2))), (9, .ptr 9 0), (10, .int .i64 (i : Nat))], loc := [], box := [(3, x.cells), (5, p.cells), (6, (List.replicate 14 .undef)), (9, (stepAll byB (p.chunks.take i) x []).1.cells)], stat := [(0, some (.own 12 1))] }) (fun i => i ≤ p.chunks.length) (fun i => p.chunks.length - i) 0 (by omega)
      (Weak.of [(0, some 208, 12, 1)] [(3, 3), (5, 5), (6, 6), (9, 9)] (by simp [csl, Assoc.cells, Side.cells, psl, Packet.cells, boolsV, brokS, stepAll, brok0, List.range, List.range.loop, setEl, wrEl, List.replicate])) ?_
  intro i hi
  have hok := stepAll_ok byB (p.chunks.take i) [] hx
  simp [csl, Assoc.cells, Side.cells, psl, Packet.cells, boolsV_len]
  refine goTest_dec (fun hlt => ?_) (fun hge => ?_)
  · have hsn := stepAll_snoc byB (nth p.chunks i) (p.chunks.take i) x []
    rw [← take_nth hlt] at hsn
    generalize hy : stepAll byB (p.chunks.take i) x [] = y at *
    have f3 := l31Chunk_ok y.1 byB (nth p.chunks i) (hbody _ (nth_mem hlt)) hok
    have hr := stepC_rule y.1 byB (nth p.chunks i)
    simp only [assoc_v, chunk_v, res_v] at f3
    simp [hlt, chunk_v]
    refine goDCall_eq f3 (by simp) (by simp) ?_
    simp [boolsV_len]
    generalize stepC y.1 byB (nth p.chunks i) = z at *
    obtain ⟨z1, z2⟩ := z
    obtain ⟨n, rfl⟩ : ∃ n : Nat, z2 = n := ⟨z2.toNat, by simp at hr; omega⟩
    simp at hr
    have hn : n < 12 := by omega
    have hfe : (fun k => decide (k = n) || brokS x byB p y.2 k) = brokS x byB p (y.2 ++ [(n : Int)]) := by
      funext k
      simp only [brokS]
      by_cases q : k = n
      · simp [q]
      · have e : ((k : Int) ∈ y.2 ++ [(n : Int)]) ↔ ((k : Int) ∈ y.2) := by simp; omega
        simp [e, q]
    simp [hn, boolsV_len, setEl_bool hn]
    rw [hfe]
    refine ⟨by omega, Again.mk (i + 1) hlt (by omega) (Weak.of [(0, some 0, 12, 1)] [(3, 3), (5, 5), (6, 6), (9, 9)] ?_)⟩
    simp [hsn]
  · obtain rfl : i = p.chunks.length := by omega
    simp
    exact Ends.mk [] [] (by simp [assoc_v])

/-- The numbers below 'n' that are marked, from 1 on. -/
def marks (f : Nat → Bool) (n : Nat) : List Nat := (List.range n).filter fun k => decide (1 ≤ k) && f k
theorem marks_succ (f : Nat → Bool) (n : Nat) : marks f (n + 1) = marks f n ++ (if 1 ≤ n ∧ f n = true then [n] else []) := by
  unfold marks
  rw [List.range_succ, List.filter_append]
  congr 1
  by_cases q : 1 ≤ n ∧ f n = true
  · rw [if_pos q]; simp [q.1, q.2]
  · rw [if_neg q]
    have : (decide (1 ≤ n) && f n) = false := by
      rw [Bool.eq_false_iff]; simp; intro h; cases e : f n <;> simp_all
    simp [this]
theorem marks_len (f : Nat → Bool) (n : Nat) : (marks f n).length ≤ n := by
  have := List.length_filter_le (fun k => decide (1 ≤ k) && f k) (List.range n)
  simpa [marks] using this

def nV (n : Nat) : V := .int .i64 n
def iV (n : Int) : V := .int .i64 n
def isl (l : List Int) : V := .sl none 1 (l.map iV)

theorem rulesS_marks (x : Assoc) (byB : Bool) (p : Packet) : rulesS x byB p = (marks (brokS x byB p (stepAll byB p.chunks x []).2) 12).map fun k : Nat => (k : Int) := by
  unfold rulesS marks
  rw [List.filter_map]
  congr 1

theorem spec_AssocStep_ok (x : Assoc) (p : Packet) (hx : x.bd) (hp : p.chunks.length ≤ 1000000) : Fn Tryz.prog fn_spec_AssocStep [x.v, p.v] [] (.tup [(stepS x p).1.v, isl (stepS x p).2]) [] := by
  refine Fn.of_go ln_spec_AssocStep rfl ?_
  have f1 := spec_AssocValid_ok x hx
  have f2 := spec_PacketValid_ok p hp
  have key : ∀ b, byBS x p = b → x.ok = true → p.ok = true → (b = true ∨ (p.src = x.src ∧ p.dst = x.dst)) → stepS x p = (if rulesS x b p = [] then ((stepAll b p.chunks x []).1, []) else (x, rulesS x b p)) := by
    intro b hb h1 h2 h3
    subst hb
    unfold stepS
    rw [if_pos]
    simp [mineS, h1, h2]
    rcases h3 with h3 | h3
    · left; exact h3
    · right; exact h3
  have bad : (x.ok = false ∨ p.ok = false ∨ ¬ (byBS x p = true ∨ (p.src = x.src ∧ p.dst = x.dst))) → stepS x p = (zAssoc, []) := by
    intro h
    unfold stepS
    rw [if_neg]
    simp [mineS]
    rcases h with h | h | h
    · simp [h]
    · simp [h]
    · intro _ _
      simp at h
      exact ⟨by simp [h.1], h.2⟩
  simp only [assoc_v, packet_v] at f1 f2
  have bb : byBS x p = (decide (p.src = x.dst) && decide (p.dst = x.src)) := by simp [byBS]
  rcases hxo : x.ok with _ | _
  · rw [bad (Or.inl hxo)]
    rw [hxo] at f1
    cases e1 : decide (p.src = x.dst) <;> cases e2 : decide (p.dst = x.src) <;> simp [ac_spec_AssocStep, assoc_v, packet_v, e1, e2]
    all_goals
      refine goCall_eq f1 (by simp) ?_
      simp
      exact Ends.mk [] [] (by simp [zAssoc, zSide, isl])
  · rcases hpo : p.ok with _ | _
    · rw [bad (Or.inr (Or.inl hpo))]
      rw [hxo] at f1
      rw [hpo] at f2
      cases e1 : decide (p.src = x.dst) <;> cases e2 : decide (p.dst = x.src) <;> simp [ac_spec_AssocStep, assoc_v, packet_v, e1, e2]
      all_goals
        refine goCall_eq f1 (by simp) ?_
        simp
        refine goCall_eq f2 (by simp) ?_
        simp
        exact Ends.mk [] [] (by simp [zAssoc, zSide, isl])
    · have f3 := l31Step_ok x (byBS x p) p hxo hpo
      rw [hxo] at f1
      rw [hpo] at f2
      have hxb := hx
      have c1 := l31Copy_ok x (by have := hx.1.2; omega) (by have := hx.2.2; omega)
      have hyo := stepAll_ok (byBS x p) p.chunks [] hxo
      have c2 := l31Copy_ok (stepAll (byBS x p) p.chunks x []).1 (by have := (Assoc.ok_bd hyo).1.2; omega) (by have := (Assoc.ok_bd hyo).2.2; omega)
      have key2 := key _ rfl hxo hpo
      have bad2 := fun h => bad (Or.inr (Or.inr h))
      rw [rulesS_marks] at key2
      have hml := marks_len (brokS x (byBS x p) p (stepAll (byBS x p) p.chunks x []).2)
      generalize stepAll (byBS x p) p.chunks x [] = y at *
      generalize brokS x (byBS x p) p y.2 = f at *
      rw [bb] at f3 key2 bad2
      clear key bad
      simp only [assoc_v, packet_v, Assoc.own, Side.own] at f3 c1 c2
      have bad3 : ((decide (p.src = x.dst) && decide (p.dst = x.src)) || (decide (p.src = x.src) && decide (p.dst = x.dst))) = false → stepS x p = (zAssoc, []) := by
        intro h
        refine bad2 fun q => ?_
        rcases q with q | ⟨q1, q2⟩
        · rw [q] at h; simp at h
        · simp [q1, q2] at h
      have key3 : ((decide (p.src = x.dst) && decide (p.dst = x.src)) || (decide (p.src = x.src) && decide (p.dst = x.dst))) = true → stepS x p = if (marks f 12).map (fun k : Nat => (k : Int)) = [] then (y.1, []) else (x, (marks f 12).map (fun k : Nat => (k : Int))) := by
        intro h
        refine key2 ?_
        simp only [Bool.or_eq_true] at h
        rcases h with h | h
        · left; exact h
        · right; simpa using h
      clear bad2 key2 bb
      generalize stepS x p = R at *
      have hml12 := hml 12
      cases e1 : decide (p.src = x.dst) <;> cases e2 : decide (p.dst = x.src) <;> cases e3 : decide (p.src = x.src) <;> cases e4 : decide (p.dst = x.dst) <;> simp [ac_spec_AssocStep, assoc_v, packet_v, e1, e2, e3, e4]
      all_goals
        refine goCall_eq f1 (by simp) ?_
        simp
        refine goCall_eq f2 (by simp) ?_
        simp [e1, e2, e3, e4]
        first
          | (rw [e1, e2, e3, e4] at bad3
             rw [bad3 rfl]
             refine Ends.mk [] [] ?_
             simp [zAssoc, zSide, isl]
             done)
          | (rw [e1, e2, e3, e4] at key3
             rw [key3 rfl]
             rw [e1, e2] at f3
             simp only [Bool.and_true, Bool.and_false, Bool.and_self] at f3
             refine goCall_eq f3 (by simp) ?_
             simp
             refine go_loop (fun k => { env := [(2, .ptr 2 0), (4, .ptr 4 0), (7, .ptr 7 0), (8, .sl none 1 (boolsV f)), (9, .sl (some 0) 1 ((marks f k).map nV)), (10, .int .i64 (k : Nat))], loc := [], box := [(2, x.cells), (4, List.replicate 14 .undef), (7, y.1.cells)], stat := [(0, some (.own (marks f k).length 1))] }) (fun k => 1 ≤ k ∧ k ≤ 12) (fun k => 12 - k) 1 (by omega) (Weak.of [(0, some 928, 0, 1)] [(2, 2), (4, 4), (7, 7)] (by simp [csl, Assoc.cells, Side.cells, psl, marks, List.range, List.range.loop, List.replicate])) ?_
             rintro k ⟨hk1, hk2⟩
             simp [csl, Assoc.cells, Side.cells, psl, boolsV_len]
             refine goTest_dec (fun hlt => ?_) (fun hge => ?_)
             · have hms := marks_succ f k
               have hmk := hml k
               simp [hlt, getD_bool hlt, boolsV_len]
               cases hfk : f k
               · simp [hfk] at hms
                 simp
                 refine ⟨by omega, Again.mk (k + 1) (by omega) (by omega) (Weak.of [(0, some 0, (marks f k).length, 1)] [(2, 2), (4, 4), (7, 7)] ?_)⟩
                 simp [hms]
               · simp [hfk, hk1] at hms
                 simp
                 refine ⟨by unfold roomOk; omega, by omega, Again.mk (k + 1) (by omega) (by omega) (Weak.of [(0, some 0, (marks f k).length + 1, 1)] [(2, 2), (4, 4), (7, 7)] ?_)⟩
                 simp [hms, nV]
             · obtain rfl : k = 12 := by omega
               simp
               refine goTest_dec (fun hp => ?_) (fun hz => ?_)
               · have hne : ¬ (marks f 12) = [] := by intro e; rw [e] at hp; simp at hp
                 simp [hne]
                 refine goCall_eq c1 (by simp) ?_
                 simp
                 refine Ends.mk [] [] ?_
                 simp [isl, nV, iV]
               · have hne : (marks f 12) = [] := by simpa using hz
                 simp [hne]
                 refine goCall_eq c2 (by simp) ?_
                 simp
                 refine Ends.mk [] [] ?_
                 simp [isl, hne])
end

section
set_option maxRecDepth 200000
set_option maxHeartbeats 8000000
attribute [-simp] List.getD_eq_getElem?_getD


/-- The end of a draw: the result as it stands, and where the reader is. -/
theorem exRet {rs : List ARes} {Post : V → List (List V) → Prop} {st : St} {cs : List V} (hcs : lookB st.box 1000 = some cs)
    (hE : st.resOk rs ∧ okM st.stat [] ∧ okN [(1000, 1000)] ∧ statM [] = resStat (st.result rs) [cs] ∧ relV [] st.stat none [(1000, 1000)] (st.result rs) (st.result rs) ∧ okB [] st.stat none st.box [(1000, 1000)] (boxesOf [cs]) ∧ hasB (boxesOf [cs]) [(1000, 1000)] ∧ keepB [(1000, 1000)] st.box)
    (hp : Post (st.result rs) [cs]) : ∃ R bo, Post R bo ∧ Ends rs R bo st := ⟨_, _, hp, Ends.mk [] [(1000, 1000)] hE⟩

section
variable {st : St} {p : Nat} {src : List UInt8} {a : Int} {d : AD} {rs : List AOp} {k : List It} {Q : AE → St → Prop}
theorem goPick3 (hb : lookB st.box p = some [bsl src, .int .i64 a]) (ha : 0 ≤ a ∧ a < 1000000000)
    (h : ∀ r : Nat, r = 0 ∨ r = 1 ∨ r = 2 → go Tryz.prog (.ops rs :: k) Q .normal (Delta.apply { val := .int .i64 r, nb := [(p, [.sl none 1 (src.map byteV), .int .i64 (a + 1)])] } st d)) : goCall Tryz.prog fn_spec_l6Rd_pick [.ptr p 0, .int .i64 3] d rs k Q st :=
  goPick hb ha (by omega) fun r hr => h r (by omega)
theorem goPick4 (hb : lookB st.box p = some [bsl src, .int .i64 a]) (ha : 0 ≤ a ∧ a < 1000000000)
    (h : ∀ r : Nat, r = 0 ∨ r = 1 ∨ r = 2 ∨ r = 3 → go Tryz.prog (.ops rs :: k) Q .normal (Delta.apply { val := .int .i64 r, nb := [(p, [.sl none 1 (src.map byteV), .int .i64 (a + 1)])] } st d)) : goCall Tryz.prog fn_spec_l6Rd_pick [.ptr p 0, .int .i64 4] d rs k Q st :=
  goPick hb ha (by omega) fun r hr => h r (by omega)

theorem goWord (hb : lookB st.box p = some [bsl src, .int .i64 a]) (ha : 0 ≤ a ∧ a < 10000000)
    (h : ∀ n b : Int, (-1 ≤ n ∧ n ≤ 65791) → (a ≤ b ∧ b ≤ a + 4) → go Tryz.prog (.ops rs :: k) Q .normal (Delta.apply { val := .int .i64 n, nb := [(p, [.sl none 1 (src.map byteV), .int .i64 b])] } st d)) : goCall Tryz.prog fn_spec_l91Word [.ptr p 0] d rs k Q st := by
  obtain ⟨_, _, ⟨n, b, hn, hb2⟩, f⟩ := l91Word_ok src a (by omega)
  refine goCall_gen [] [(1000, p)] [] [] none f (by simp [bsl, hb]) ?_
  have := h n b hn hb2
  simpa [bsl] using this

theorem goBytes (n : Nat) (hn : n ≤ 1000) (hb : lookB st.box p = some [bsl src, .int .i64 a]) (ha : 0 ≤ a ∧ a < 10000000)
    (h : ∀ (t : List UInt8) (b : Int), t.length ≤ n → (a ≤ b ∧ b ≤ a + (1 + 2 * n)) → go Tryz.prog (.ops rs :: k) Q .normal (Delta.apply { val := .str t, nb := [(p, [.sl none 1 (src.map byteV), .int .i64 b])] } st d)) : goCall Tryz.prog fn_spec_l91Bytes [.ptr p 0, .int .i64 n] d rs k Q st := by
  obtain ⟨_, _, ⟨t, b, ht, hb2⟩, f⟩ := l91Bytes_ok src a n hn (by omega)
  refine goCall_gen [] [(1000, p)] [] [] none f (by simp [bsl, hb]) ?_
  have := h t b ht hb2
  simpa [bsl] using this
end

theorem l91Good_ok (src : List UInt8) (a : Int) (h : 0 ≤ a ∧ a < 10000000) : ∃ R bo, IntR src a 4 0 65535 R bo ∧ Fn Tryz.prog fn_spec_l91Good [.ptr 1000 0] [[bsl src, .int .i64 a]] R bo := by
  refine Fx.of_go ln_spec_l91Good rfl ?_
  simp [ac_spec_l91Good, bsl]
  refine goWord rfl (by omega) fun n b hn hb => ?_
  simp
  refine exRet rfl (by simp) ?_
  simp
  refine .mk _ _ ?_ ?_
  · split <;> split <;> omega
  · omega

section
variable {st : St} {p : Nat} {src : List UInt8} {a : Int} {d : AD} {rs : List AOp} {k : List It} {Q : AE → St → Prop}
theorem goGood (hb : lookB st.box p = some [bsl src, .int .i64 a]) (ha : 0 ≤ a ∧ a < 10000000)
    (h : ∀ n b : Int, (0 ≤ n ∧ n ≤ 65535) → (a ≤ b ∧ b ≤ a + 4) → go Tryz.prog (.ops rs :: k) Q .normal (Delta.apply { val := .int .i64 n, nb := [(p, [.sl none 1 (src.map byteV), .int .i64 b])] } st d)) : goCall Tryz.prog fn_spec_l91Good [.ptr p 0] d rs k Q st := by
  obtain ⟨_, _, ⟨n, b, hn, hb2⟩, f⟩ := l91Good_ok src a (by omega)
  refine goCall_gen [] [(1000, p)] [] [] none f (by simp [bsl, hb]) ?_
  have := h n b hn hb2
  simpa [bsl] using this
end
end

section
set_option maxRecDepth 200000
set_option maxHeartbeats 8000000
attribute [-simp] List.getD_eq_getElem?_getD


inductive MnR (n : Nat) : V → List (List V) → Prop
  | mk (t : List UInt8) (h : t.length = n) : MnR n (.str t) []

theorem l6Many_ok' (s : List UInt8) (n : Nat) (hn : n * s.length ≤ 100000) (hn2 : n ≤ 100000) : ∃ R bo, MnR (n * s.length) R bo ∧ Fn Tryz.prog fn_spec_l6Many [.str s, .int .i64 n] [] R bo := by
  refine Fx.of_go ln_spec_l6Many rfl ?_
  simp [ac_spec_l6Many]
  refine go_loop (fun x : Nat × List UInt8 × List UInt8 => { env := [(0, .str x.2.1), (1, .int .i64 (x.1 : Nat)), (5, .str x.2.2)], loc := [], box := [], stat := [] }) (fun x => x.2.2.length + x.1 * x.2.1.length = n * s.length ∧ x.1 ≤ 100000) (fun x => x.1) (n, s, []) ⟨by simp, hn2⟩ (Weak.of [] [] (by simp)) ?_
  rintro ⟨m, t, o⟩ ⟨hm, hm2⟩
  simp at hm hm2
  simp
  refine goTest_dec (fun q => ?_) (fun q => ?_)
  · have e1 : (m : Int).tmod 2 = ((m % 2 : Nat) : Int) := by rw [tmod_pos (by omega)]; omega
    have e2 : (m : Int).tdiv 2 = ((m / 2 : Nat) : Int) := by rw [tdiv_pos (by omega)]; omega
    have hsp : m = 2 * (m / 2) + m % 2 := by omega
    have hmul : m * t.length = (m / 2) * (t.length + t.length) + (m % 2) * t.length := by
      conv => lhs; rw [hsp]
      rw [Nat.add_mul, Nat.mul_comm 2, Nat.mul_assoc, Nat.two_mul]
    have hlt : t.length ≤ m * t.length := Nat.le_mul_of_pos_left _ q
    simp [e1]
    refine goTest_dec (fun q1 => ?_) (fun q1 => ?_)
    · have q2 : m % 2 = 1 := by omega
      rw [q2] at hmul
      simp [e2]
      repeat' (first
        | (refine And.intro (by omega) ?_)
        | (refine Again.mk (m / 2, t ++ t, o ++ t) ?_ (by simp; omega) (Weak.of [] [] (by simp))))
      all_goals (refine ⟨?_, by simp; omega⟩; simp; omega)
    · have q2 : m % 2 = 0 := by omega
      rw [q2] at hmul
      simp [e2]
      repeat' (first
        | (refine And.intro (by omega) ?_)
        | (refine Again.mk (m / 2, t ++ t, o) ?_ (by simp; omega) (Weak.of [] [] (by simp))))
      all_goals (refine ⟨?_, by simp; omega⟩; simp; omega)
  · obtain rfl : m = 0 := by omega
    simp
    exact ⟨_, _, .mk o (by omega), Ends.mk [] [] (by simp)⟩
theorem l6Many_ok (s : List UInt8) (n : Nat) (hn : n * s.length ≤ 100000) (hn2 : n ≤ 100000) : ∃ t : List UInt8, t.length = n * s.length ∧ Fn Tryz.prog fn_spec_l6Many [.str s, .int .i64 n] [] (.str t) [] := by
  obtain ⟨_, _, ⟨t, ht⟩, f⟩ := l6Many_ok' s n hn hn2
  exact ⟨t, ht, f⟩
theorem goMany {st : St} {d : AD} {rs : List AOp} {k : List It} {Q : AE → St → Prop} {s : List UInt8} (n : Nat) (hn : n * s.length ≤ 100000) (hn2 : n ≤ 100000)
    (h : ∀ t : List UInt8, t.length = n * s.length → go Tryz.prog (.ops rs :: k) Q .normal (Delta.apply { val := .str t } st d)) : goCall Tryz.prog fn_spec_l6Many [.str s, .int .i64 n] d rs k Q st := by
  obtain ⟨t, ht, f⟩ := l6Many_ok s n hn hn2
  refine goCall_eq f (by simp) ?_
  have := h t ht
  simpa using this

inductive ChR (src : List UInt8) (a k : Int) : V → List (List V) → Prop
  | mk (n m : Int) (t : List UInt8) (b : Int) (h : t.length ≤ 1000) (hb : a ≤ b ∧ b ≤ a + k) : ChR src a k (.agg [.int .i64 n, .int .i64 m, .str t]) [[bsl src, .int .i64 b]]

section
variable {st : St} {p : Nat} {src : List UInt8} {a : Int} {d : AD} {rs : List AOp} {k : List It} {Q : AE → St → Prop}
end


inductive PtR (src : List UInt8) (a k : Int) : V → List (List V) → Prop
  | mk (t s n : Int) (f l o : Bool) (x : List UInt8) (b : Int) (h : x.length ≤ 1000) (hb : a ≤ b ∧ b ≤ a + k) : PtR src a k (.agg [.int .i64 t, .int .i64 s, .int .i64 n, .bool f, .bool l, .bool o, .str x]) [[bsl src, .int .i64 b]]

theorem l91Part_ok (src : List UInt8) (a : Int) (h : 0 ≤ a ∧ a < 8000000) : ∃ R bo, PtR src a 60 R bo ∧ Fn Tryz.prog fn_spec_l91Part [.ptr 1000 0] [[bsl src, .int .i64 a]] R bo := by
  refine Fx.of_go ln_spec_l91Part rfl ?_
  simp [ac_spec_l91Part, bsl]
  refine goGood rfl (by omega) fun n0 b0 hn0 hb0 => ?_
  simp
  refine goPick rfl (by omega) (by omega) fun r1 h1 => ?_
  simp
  refine goPick rfl (by omega) (by omega) fun r2 h2 => ?_
  simp
  refine goBytes 6 (by omega) rfl (by omega) fun t b ht hb => ?_
  simp
  refine ⟨by omega, ?_⟩
  refine goPick rfl (by omega) (by omega) fun r3 h3 => ?_
  simp
  refine goPick rfl (by omega) (by omega) fun r4 h4 => ?_
  simp
  refine goPick rfl (by omega) (by omega) fun r5 h5 => ?_
  simp
  refine goPick rfl (by omega) (by omega) fun r6 h6 => ?_
  simp
  repeat' (first
    | (exfalso; omega)
    | (refine And.intro (by omega) ?_)
    | (refine goTest_dec (fun q => ?_) (fun q => ?_) <;> simp [q])
    | (refine goWord rfl (by omega) fun n1 b1 hn1 hb1 => ?_; simp)
    | (refine goPick3 rfl (by omega) fun r hr => ?_; simp; refine And.intro (by omega) ?_; rw [show (19 : Int) + (r : Int) = ((19 + r : Nat) : Int) by omega]; refine goMany (19 + r) (by simp; omega) (by omega) fun t2 ht2 => ?_; simp at ht2; simp)
    | (refine exRet rfl (by simp) ?_; simp; refine .mk _ _ _ _ _ _ _ _ (by (first | omega | (simp; omega) | simp)) (by omega)))

section
variable {st : St} {p : Nat} {src : List UInt8} {a : Int} {d : AD} {rs : List AOp} {k : List It} {Q : AE → St → Prop}
end


inductive HiR (src : List UInt8) (a k : Int) : V → List (List V) → Prop
  | mk (t w s n b : Int) (hb : a ≤ b ∧ b ≤ a + k) : HiR src a k (.agg [.int .i64 t, .int .i64 w, .int .i64 s, .int .i64 n]) [[bsl src, .int .i64 b]]
end

section
set_option maxRecDepth 200000
set_option maxHeartbeats 4000000
attribute [-simp] List.getD_eq_getElem?_getD

def putC (c : Chunk) : List UInt8 := UInt8.ofNat c.kind.toNat :: UInt8.ofNat c.flags.toNat :: put16 (4 + c.body.length) ++ c.body ++ List.replicate ((4 + c.body.length + 3) / 4 * 4 - (4 + c.body.length)) 0
theorem putC_len (c : Chunk) : (putC c).length = (4 + c.body.length + 3) / 4 * 4 := by
  simp [putC, put16_len]; omega

def baseC (c : Chunk) : List UInt8 := UInt8.ofNat c.kind.toNat :: UInt8.ofNat c.flags.toNat :: put16 (4 + c.body.length) ++ c.body

theorem l11Put_ok (c : Chunk) (hc : c.ok = true) : Fn Tryz.prog fn_spec_l11Put [c.v] [] (.str (putC c)) [] := by
  refine Fn.of_go ln_spec_l11Put rfl ?_
  simp only [Chunk.ok, inB, Bool.and_eq_true, decide_eq_true_eq] at hc
  obtain ⟨⟨hk, hf⟩, hl⟩ := hc
  obtain ⟨kn, hkn⟩ := Int.eq_ofNat_of_zero_le hk.1
  obtain ⟨fn, hfn⟩ := Int.eq_ofNat_of_zero_le hf.1
  have e1 : IntKind.u8.wrap (kn : Int) = kn := wrap_byte (by omega) (by omega)
  have e2 : IntKind.u8.wrap (fn : Int) = fn := wrap_byte (by omega) (by omega)
  have f1 := l1Word_ok (4 + c.body.length) (by omega)
  have e4 : (4 : Int) + (c.body.length : Int) = ((4 + c.body.length : Nat) : Int) := by omega
  have eb : baseC c = UInt8.ofNat kn :: UInt8.ofNat fn :: (put16 ((4 + c.body.length : Nat) : Int) ++ c.body) := by simp [baseC, hkn, hfn]
  simp [ac_spec_l11Put, chunk_v, hkn, hfn, e1, e2]
  refine ⟨by omega, ?_⟩
  rw [e4]
  refine goDCall_eq f1 (by simp) (by simp) ?_
  simp
  have hp3 : (4 + c.body.length + 3) / 4 * 4 - (4 + c.body.length) ≤ 3 := by omega
  repeat' (first | (refine And.intro (by first | omega | (simp [put16_len]; omega) | simp [put16_len]) ?_))
  refine go_loop (fun j => { env := [(3, .str (baseC c ++ List.replicate j 0))], loc := [], box := [], stat := [] }) (fun j => j ≤ (4 + c.body.length + 3) / 4 * 4 - (4 + c.body.length)) (fun j => 4 - j) 0 (by omega) (Weak.of [] [] (by simp [eb])) ?_
  intro j hj
  have hlen : (baseC c ++ List.replicate j 0).length = 4 + c.body.length + j := by simp [baseC, put16_len]; omega
  have hm : ((baseC c ++ List.replicate j 0).length : Int).tmod 4 = (((4 + c.body.length + j) % 4 : Nat) : Int) := by rw [hlen, tmod_pos (by omega)]; omega
  generalize hg : baseC c ++ List.replicate j 0 = g at *
  simp [hm]
  refine goTest_dec (fun q => ?_) (fun q => ?_)
  · have q2 : (4 + c.body.length + j) % 4 = 0 := by omega
    simp
    have : putC c = g := by
      rw [← hg]
      have : j = (4 + c.body.length + 3) / 4 * 4 - (4 + c.body.length) := by omega
      rw [this]; rfl
    rw [this]
    exact Ends.mk [] [] (by simp)
  · simp
    refine ⟨by omega, Again.mk (j + 1) (by omega) (by omega) (Weak.of [] [] ?_)⟩
    rw [← hg]
    simp [List.replicate_succ']

def sliceB (s : List UInt8) (a b : Nat) : List UInt8 := (s.take b).drop a

theorem slice_split {s : List UInt8} {a b c : Nat} (h1 : a ≤ b) (h2 : b ≤ c) (h3 : b ≤ s.length) : sliceB s a c = sliceB s a b ++ sliceB s b c := by
  unfold sliceB
  have e : s.take c = s.take b ++ (s.take c).drop b := by
    have := (List.take_append_drop b (s.take c)).symm
    rwa [List.take_take, Nat.min_eq_left h2] at this
  conv => lhs; rw [e]
  rw [List.drop_append_of_le_length (by simp; omega)]

theorem slice4 {s : List UInt8} {i : Nat} (h : i + 4 ≤ s.length) : sliceB s i (i + 4) = [nth s i, nth s (i + 1), nth s (i + 2), nth s (i + 3)] := by
  unfold sliceB
  rw [take_nth (show i + 3 < s.length by omega), take_nth (show i + 2 < s.length by omega), take_nth (show i + 1 < s.length by omega), take_nth (show i < s.length by omega)]
  simp only [List.append_assoc]
  rw [List.drop_left' (by simp; omega)]
  rfl

theorem sliceB_len {s : List UInt8} {a b : Nat} (h : b ≤ s.length) : (sliceB s a b).length = b - a := by
  simp [sliceB]; omega

def zerosB (l : List UInt8) : Bool := l.all fun b => decide (b = 0)

def chunkOf (s : List UInt8) (i n : Nat) : Chunk := ⟨(nth s i).toNat, (nth s (i + 1)).toNat, sliceB s (i + 4) (i + n)⟩

/-- The chunk at a place, and the place behind it. -/
def chunkAt (s : List UInt8) (i : Nat) : Option (Chunk × Nat) :=
  if i + 4 ≤ s.length ∧ (4 ≤ at16 s (i + 2) ∧ at16 s (i + 2) ≤ 64) ∧ i + ((at16 s (i + 2)).toNat + 3) / 4 * 4 ≤ s.length ∧ zerosB (sliceB s (i + (at16 s (i + 2)).toNat) (i + ((at16 s (i + 2)).toNat + 3) / 4 * 4)) = true
  then some (chunkOf s i (at16 s (i + 2)).toNat, i + ((at16 s (i + 2)).toNat + 3) / 4 * 4) else none

theorem put16_at {s : List UInt8} {i n : Nat} (h : at16 s i = n) : put16 (n : Int) = [nth s i, nth s (i + 1)] := by
  have h1 := (nth s i).toNat_lt
  have h2 := (nth s (i + 1)).toNat_lt
  unfold at16 at h
  have e1 : (n : Int).toNat / 256 = (nth s i).toNat := by omega
  have e2 : (n : Int).toNat % 256 = (nth s (i + 1)).toNat := by omega
  unfold put16
  rw [e1, e2]
  simp

theorem putC_of {s : List UInt8} {i n : Nat} (h : i + 4 ≤ s.length) (hn : at16 s (i + 2) = n) (h4 : 4 ≤ n ∧ n ≤ 64) (hi : i + n ≤ s.length) :
    putC (chunkOf s i n) = sliceB s i (i + n) ++ List.replicate ((n + 3) / 4 * 4 - n) 0 ∧ (chunkOf s i n).body.length = n - 4 ∧ (chunkOf s i n).ok = true := by
  have hb : (chunkOf s i n).body.length = n - 4 := by simp [chunkOf, sliceB_len hi]; omega
  refine ⟨?_, hb, ?_⟩
  · have e : 4 + (chunkOf s i n).body.length = n := by omega
    have e2 : (4 : Int) + ((chunkOf s i n).body.length : Int) = (n : Int) := by omega
    unfold putC
    rw [e, e2, put16_at hn]
    rw [slice_split (show i ≤ i + 4 by omega) (show i + 4 ≤ i + n by omega) h, slice4 h]
    simp [chunkOf]
  · have h1 := (nth s i).toNat_lt
    have h2 := (nth s (i + 1)).toNat_lt
    simp only [Chunk.ok, inB, Bool.and_eq_true, decide_eq_true_eq, hb]
    simp only [chunkOf]
    omega

theorem slice_put {s : List UInt8} {i n : Nat} (h : i + 4 ≤ s.length) (hn : at16 s (i + 2) = n) (h4 : 4 ≤ n ∧ n ≤ 64) (hi : i + (n + 3) / 4 * 4 ≤ s.length) :
    sliceB s i (i + (n + 3) / 4 * 4) = putC (chunkOf s i n) ↔ zerosB (sliceB s (i + n) (i + (n + 3) / 4 * 4)) = true := by
  obtain ⟨e, -, -⟩ := putC_of h hn h4 (by omega)
  rw [e, slice_split (show i ≤ i + n by omega) (show i + n ≤ i + (n + 3) / 4 * 4 by omega) (by omega), List.append_cancel_left_eq]
  rw [List.eq_replicate_iff]
  simp only [zerosB, List.all_eq_true, decide_eq_true_eq]
  constructor
  · exact fun q => q.2
  · exact fun q => ⟨by rw [sliceB_len hi]; omega, q⟩

def optC : Option (Chunk × Nat) → V
  | some (c, j) => .tup [c.v, .int .i64 j, .bool true]
  | none => .tup [zChunk.v, .int .i64 0, .bool false]

theorem spec_ChunkGet_ok (s : List UInt8) (i : Nat) (hs : s.length ≤ 1000000) (hi : i ≤ 1000000) : Fn Tryz.prog fn_spec_ChunkGet [.str s, .int .i64 i] [] (optC (chunkAt s i)) [] := by
  refine Fn.of_go ln_spec_ChunkGet rfl ?_
  have hno : ¬ (i + 4 ≤ s.length ∧ (4 ≤ at16 s (i + 2) ∧ at16 s (i + 2) ≤ 64) ∧ i + ((at16 s (i + 2)).toNat + 3) / 4 * 4 ≤ s.length ∧ zerosB (sliceB s (i + (at16 s (i + 2)).toNat) (i + ((at16 s (i + 2)).toNat + 3) / 4 * 4)) = true) → chunkAt s i = none := fun q => by
    unfold chunkAt; rw [if_neg q]
  have hlt := at16_lt s (i + 2)
  obtain ⟨n, hn⟩ := Int.eq_ofNat_of_zero_le hlt.1
  have hno2 : ¬ (i + 4 ≤ s.length ∧ (4 ≤ n ∧ n ≤ 64) ∧ i + (n + 3) / 4 * 4 ≤ s.length ∧ zerosB (sliceB s (i + n) (i + (n + 3) / 4 * 4)) = true) → chunkAt s i = none := fun q => hno (by
    rw [hn]; simpa using q)
  have hyes : (i + 4 ≤ s.length ∧ (4 ≤ n ∧ n ≤ 64) ∧ i + (n + 3) / 4 * 4 ≤ s.length ∧ zerosB (sliceB s (i + n) (i + (n + 3) / 4 * 4)) = true) → chunkAt s i = some (chunkOf s i n, i + (n + 3) / 4 * 4) := fun q => by
    unfold chunkAt; rw [hn, if_pos (by simpa using q)]; simp
  clear hno
  simp [ac_spec_ChunkGet]
  refine ⟨by omega, goTest_dec (fun q1 => ?_) (fun q1 => ?_)⟩
  · rw [hno2 (by omega)]
    simp
    exact Ends.mk [] [] (by simp [optC, zChunk_v])
  simp
  have f1 := l1At_ok s (i + 2) (by omega) (by omega)
  rw [hn] at f1
  refine ⟨by omega, ?_⟩
  rw [show (i : Int) + 2 = ((i + 2 : Nat) : Int) by omega]
  refine goCall_eq f1 (by simp) ?_
  simp
  refine goCall_eq (l6In_ok _ _ _) (by simp) ?_
  simp [inB_dec, -Bool.decide_and]
  refine goTest_dec (fun q2 => ?_) (fun q2 => ?_)
  · simp [q2]
    refine ⟨by omega, goTest_dec (fun q3 => ?_) (fun q3 => ?_)⟩
    · rw [hno2 (by omega)]
      simp [q3]
      exact Ends.mk [] [] (by simp [optC, zChunk_v])
    · obtain ⟨e, hb, hok⟩ := putC_of (s := s) (i := i) (n := n) (by omega) hn (by omega) (by omega)
      have f2 := l11Put_ok _ hok
      have hL := putC_len (chunkOf s i n)
      rw [hb, show 4 + (n - 4) = n by omega] at hL
      have ev : (chunkOf s i n).v = .agg [.int .i64 (nth s i).toNat, .int .i64 (nth s (i + 1)).toNat, .str (List.drop (i + 4) (List.take (i + n) s))] := rfl
      rw [ev] at f2
      have w1 : IntKind.i64.wrap ((s.getD i 0).toNat : Int) = (nth s i).toNat := by rw [wrap_u8, getD_nth (by omega)]
      have w2 : IntKind.i64.wrap ((s.getD (i + 1) 0).toNat : Int) = (nth s (i + 1)).toNat := by rw [wrap_u8, getD_nth (by omega)]
      have w3 : ((i : Int) + 4).toNat = i + 4 := by omega
      have w4 : ((i : Int) + (n : Int)).toNat = i + n := by omega
      have w5 : ((i : Int) + ((putC (chunkOf s i n)).length : Int)).toNat = i + (n + 3) / 4 * 4 := by rw [hL]; omega
      simp [q3, w1, w2, w3, w4]
      refine ⟨by omega, by omega, by omega, by omega, by omega, by omega, ?_⟩
      refine goCall_eq f2 (by simp) ?_
      have hsl := slice_put (s := s) (i := i) (n := n) (by omega) hn (by omega)
      generalize hT : putC (chunkOf s i n) = T at *
      simp [w5]
      refine ⟨by omega, goTest_dec (fun q4 => ?_) (fun q4 => ?_)⟩
      · rw [hno2 (by omega)]
        simp [q4]
        exact Ends.mk [] [] (by simp [optC, zChunk_v])
      · simp [q4, w5]
        refine ⟨by omega, by omega, goTest_dec (fun q5 => ?_) (fun q5 => ?_)⟩
        · have hz := (hsl (by omega)).1 q5
          rw [hyes ⟨by omega, by omega, by omega, hz⟩]
          simp [q5]
          refine ⟨by omega, Ends.mk [] [] ?_⟩
          simp [optC, ev]
          omega
        · have hz : ¬ zerosB (sliceB s (i + n) (i + (n + 3) / 4 * 4)) = true := fun z => q5 ((hsl (by omega)).2 z)
          rw [hno2 (fun q => hz q.2.2.2)]
          simp [q5]
          exact Ends.mk [] [] (by simp [optC, zChunk_v])
  · rw [hno2 (by omega)]
    simp [q2]
    exact Ends.mk [] [] (by simp [optC, zChunk_v])

end

section
set_option maxRecDepth 200000
set_option maxHeartbeats 4000000
attribute [-simp] List.getD_eq_getElem?_getD

/-- The chunks from a place on. -/
def chunksAt (s : List UInt8) : Nat → Nat → List Chunk → Option (List Chunk)
  | 0, _, acc => some acc
  | f + 1, i, acc => if i < s.length then (match chunkAt s i with
    | none => none
    | some (c, j) => chunksAt s f j (acc ++ [c])) else some acc

theorem chunkAt_some {s : List UInt8} {i j : Nat} {c : Chunk} (h : chunkAt s i = some (c, j)) : i + 4 ≤ j ∧ j ≤ s.length ∧ c.ok = true := by
  unfold chunkAt at h
  split at h
  · rename_i q
    obtain ⟨n, hn⟩ := Int.eq_ofNat_of_zero_le (at16_lt s (i + 2)).1
    rw [hn] at h q
    simp at h q
    obtain ⟨rfl, rfl⟩ := h
    have := (putC_of (s := s) (i := i) (n := n) q.1 hn (by omega) (by omega)).2.2
    exact ⟨by omega, by omega, this⟩
  · cases h

def packOf (s : List UInt8) (cs : List Chunk) : Packet := ⟨at16 s 0, at16 s 2, at32 s 4, cs⟩

/-- The packet that bytes hold, and what they are. -/
def getP (s : List UInt8) : Packet × Int :=
  if s.length < 12 then (zPacket, 1) else
  if at32 s 8 ≠ sumP s then (zPacket, 2) else
  match chunksAt s s.length 12 [] with
  | none => (zPacket, 3)
  | some cs => if (packOf s cs).ok then (packOf s cs, 0) else (zPacket, 3)

theorem zPacket_v : zPacket.v = .agg [.int .i64 0, .int .i64 0, .int .i64 0, .sl none 3 []] := rfl
theorem packOf_v (s : List UInt8) (cs : List Chunk) : (packOf s cs).v = .agg [.int .i64 (at16 s 0), .int .i64 (at16 s 2), .int .i64 (at32 s 4), .sl none 3 (cs.map Chunk.v)] := rfl
def resP (r : Packet × Int) : V := .tup [r.1.v, .int .i64 r.2]

theorem spec_PacketGet_ok (s : List UInt8) (hs : s.length ≤ 1000000) : Fn Tryz.prog fn_spec_PacketGet [.str s] [] (resP (getP s)) [] := by
  refine Fn.of_go ln_spec_PacketGet rfl ?_
  simp [ac_spec_PacketGet]
  refine goTest_dec (fun q1 => ?_) (fun q1 => ?_)
  · have e : getP s = (zPacket, 1) := by unfold getP; rw [if_pos (by omega)]
    rw [e]
    simp [q1]
    exact Ends.mk [] [] (by simp [resP, zPacket_v])
  have f0 := l1At_ok s 0 (by omega) (by omega)
  have f2 := l1At_ok s 2 (by omega) (by omega)
  have f4 := l1At_ok s 4 (by omega) (by omega)
  have f6 := l1At_ok s 6 (by omega) (by omega)
  have f8 := l1At_ok s 8 (by omega) (by omega)
  have f10 := l1At_ok s 10 (by omega) (by omega)
  have fs := l13Sum_ok s (by omega) (by omega)
  have b0 := at16_lt s 0
  have b2 := at16_lt s 2
  have b4 := at16_lt s 4
  have b6 := at16_lt s 6
  have b8 := at16_lt s 8
  have b10 := at16_lt s 10
  have h32 : at32 s 8 = 65536 * at16 s 8 + at16 s 10 := rfl
  have h34 : at32 s 4 = 65536 * at16 s 4 + at16 s 6 := rfl
  simp at f0 f2 f4 f6 f8 f10
  simp [q1]
  refine goCall_eq f8 (by simp) ?_
  simp
  refine ⟨by omega, ?_⟩
  refine goCall_eq f10 (by simp) ?_
  simp
  refine ⟨by omega, ?_⟩
  refine goCall_eq fs (by simp) ?_
  simp
  rw [← h32]
  refine goTest_dec (fun q2 => ?_) (fun q2 => ?_)
  · simp [q2]
    refine goCall_eq f0 (by simp) ?_
    simp
    refine goCall_eq f2 (by simp) ?_
    simp
    refine goCall_eq f4 (by simp) ?_
    simp
    refine ⟨by omega, ?_⟩
    refine goCall_eq f6 (by simp) ?_
    simp
    refine ⟨by omega, ?_⟩
    rw [← h34]
    obtain ⟨tot, htot⟩ : ∃ tot, chunksAt s s.length 12 [] = tot := ⟨_, rfl⟩
    have he3 : tot = none → getP s = (zPacket, 3) := fun h => by
      unfold getP; rw [if_neg (by omega), if_neg (by simpa using q2), htot, h]
    have he4 : ∀ {cs}, tot = some cs → getP s = if (packOf s cs).ok then (packOf s cs, 0) else (zPacket, 3) := fun h => by
      unfold getP; rw [if_neg (by omega), if_neg (by simpa using q2), htot, h]
    refine go_loop (fun x : Nat × Nat × List Chunk => { env := [(0, .str s), (2, .ptr 2 0), (4, .ptr 4 0), (5, .int .i64 (x.2.1 : Nat))], loc := [], box := [(2, List.replicate 4 .undef), (4, [.int .i64 (at16 s 0), .int .i64 (at16 s 2), .int .i64 (at32 s 4), .sl (some 0) 3 (x.2.2.map Chunk.v)])], stat := [(0, some (.own x.2.2.length 3))] })
      (fun x => chunksAt s x.1 x.2.1 x.2.2 = tot ∧ s.length ≤ x.2.1 + x.1 ∧ 12 ≤ x.2.1 ∧ x.2.1 ≤ s.length ∧ x.2.2.length ≤ x.2.1) (fun x => s.length - x.2.1) (s.length, 12, []) ⟨htot, by simp, by simp, by simp; omega, by simp⟩ (Weak.of [(0, some 528, 0, 3)] [(2, 2), (4, 4)] (by simp [List.replicate])) ?_
    rintro ⟨f, i, acc⟩ ⟨hc, hf, h12, hil, hal⟩
    simp at hc hf h12 hil hal
    simp
    refine goTest_dec (fun hlt => ?_) (fun hge => ?_)
    · have g1 := spec_ChunkGet_ok s i hs (by omega)
      obtain ⟨f, rfl⟩ : ∃ g, f = g + 1 := ⟨f - 1, by omega⟩
      simp only [chunksAt] at hc
      rw [if_pos hlt] at hc
      cases hk : chunkAt s i with
      | none =>
        rw [hk] at g1 hc
        simp [optC, zChunk_v] at g1
        simp at hc
        simp
        refine goCall_eq g1 (by simp) ?_
        simp
        rw [he3 hc.symm]
        exact Ends.mk [] [] (by simp [resP, zPacket_v])
      | some z =>
        obtain ⟨c, j⟩ := z
        rw [hk] at g1 hc
        obtain ⟨j1, j2, -⟩ := chunkAt_some hk
        simp [optC, chunk_v] at g1
        simp at hc
        simp
        refine goCall_eq g1 (by simp) ?_
        simp
        refine ⟨by unfold roomOk; omega, Again.mk (f, j, acc ++ [c]) ⟨hc, by simp; omega, by simp; omega, by simp; omega, by simp; omega⟩ (by simp; omega) (Weak.of [(0, some 0, acc.length + 1, 3)] [(2, 2), (4, 4)] ?_)⟩
        simp [chunk_v]
    · have hta : some acc = tot := by
        rw [← hc]
        cases f with
        | zero => rfl
        | succ f => simp only [chunksAt]; rw [if_neg (by omega)]
      have g2 := spec_PacketValid_ok (packOf s acc) (by simp [packOf]; omega)
      simp only [packOf_v] at g2
      simp
      refine goCall_gen [] [] [] [0] none g2 (by simp) ?_
      simp
      rw [he4 hta.symm]
      cases hok : (packOf s acc).ok
      · simp
        exact Ends.mk [] [] (by simp [resP, zPacket_v])
      · simp
        exact Ends.mk [] [] (by simp [resP, packOf_v])
  · have e : getP s = (zPacket, 2) := by unfold getP; rw [if_neg (by omega), if_pos q2]
    rw [e]
    simp [q2]
    exact Ends.mk [] [] (by simp [resP, zPacket_v])
end

end Go.Proofs.YtnhhcfbigjpfeaaGreatDoor
