/-
  A packet, by the program.
  Captures and monitors, by the reference.
  Talks, by the reference: which are valid; parts.
-/
import Derived.Test.YtjkbbdmkgealfaaGreatDoorQ22
import Derived.Test.YtjkbbdmkgealfaaGreatDoorQ26
namespace Go.Proofs.YtjkbbdmkgealfaaGreatDoor
set_option linter.all false
section
set_option maxRecDepth 200000
set_option maxHeartbeats 8000000
attribute [-simp] List.getD_eq_getElem?_getD
theorem relCs_bools {M : Mp} {S : Stats} {E : Option (List Nat)} {B : Bm} : ∀ (l : List Bool), relCs M S E B (l.map V.bool) (l.map V.bool)
  | [] => trivial
  | a :: l => ⟨rfl, relCs_bools l⟩
theorem boolsV_map (f : Nat → Bool) : boolsV f = ((List.range 12).map f).map V.bool := by simp [boolsV]
@[simp] theorem relCs_boolsV {M : Mp} {S : Stats} {E : Option (List Nat)} {B : Bm} {f : Nat → Bool} : relCs M S E B (boolsV f) (boolsV f) = True := by
  rw [boolsV_map]; exact eq_true (relCs_bools _)
theorem take_bools (f : Nat → Bool) : (boolsV f).take 12 = boolsV f := List.take_of_length_le (by simp [boolsV])
theorem put_bool {f : Nat → Bool} {n : Nat} {b : Bool} (h : n < 12) : (boolsV f).take n ++ .bool b :: (boolsV f).drop (n + 1) = boolsV (fun k => if k = n then b else f k) := by
  refine List.ext_getElem (by simp [boolsV]; omega) fun k h1 h2 => ?_
  simp [boolsV] at h1 h2 ⊢
  rw [List.getElem_append]
  split
  · rename_i q
    simp at q
    rw [if_neg (by omega)]
    simp
  · rename_i q
    simp at q
    rw [List.getElem_cons]
    split
    · rename_i r
      simp at r
      rw [if_pos (by omega)]
    · rename_i r
      simp at r ⊢
      rw [if_neg (by omega)]
      congr 1
      omega
def tagI (l : List Chunk) (t : Int) : Int := if l.any (fun c => decide (c.kind = 1)) then 0 else t
theorem tagI_nil (t : Int) : tagI [] t = t := rfl
theorem tagI_snoc {l : List Chunk} {i : Nat} (h : i < l.length) (t : Int) : tagI (l.take (i + 1)) t = if (nth l i).kind = 1 then 0 else tagI (l.take i) t := by
  unfold tagI
  rw [take_nth h, List.any_append]
  by_cases q : (nth l i).kind = 1
  · simp [q]
  · rw [if_neg q]; simp [q]
def brokI (x : Assoc) (byB : Bool) (p : Packet) (r : List Int) (k : Nat) : Bool := decide (1 ≤ k) && brokS x byB p r k
theorem marks_brokI (x : Assoc) (byB : Bool) (p : Packet) (r : List Int) : marks (brokI x byB p r) 12 = marks (brokS x byB p r) 12 := by
  unfold marks
  refine List.filter_congr fun k _ => ?_
  unfold brokI
  cases decide (1 ≤ k) <;> simp
theorem brokI_snoc (x : Assoc) (byB : Bool) (p : Packet) (r : List Int) (n : Nat) : brokI x byB p (r ++ [(n : Int)]) = if n = 0 then brokI x byB p r else fun k => if k = n then true else brokI x byB p r k := by
  by_cases q : n = 0
  · rw [if_pos q]
    funext k
    unfold brokI brokS
    by_cases hk : 1 ≤ k
    · have e : ((k : Int) ∈ r ++ [(n : Int)]) ↔ ((k : Int) ∈ r) := by simp; omega
      simp [e]
    · simp [hk]
  · rw [if_neg q]
    funext k
    unfold brokI brokS
    by_cases hk : k = n
    · have : 1 ≤ k := by omega
      simp [hk]; omega
    · have e : ((k : Int) ∈ r ++ [(n : Int)]) ↔ ((k : Int) ∈ r) := by simp; omega
      simp [e, hk]
theorem impl_AssocStep_own (x : Assoc) (p : Packet) (hx : x.bd) (hp : p.chunks.length ≤ 1000000) : Fn Tryz.prog fn_impl_AssocStep [x.v, p.v] [] (.tup [(stepS x p).1.v, .sl (some 0) 1 ((stepS x p).2.map iV)]) [] := by
  refine Fn.of_go ln_impl_AssocStep rfl ?_
  have f1 := impl_AssocValid_ok x hx
  have f2 := impl_PacketValid_ok p hp
  have key : ∀ b, byBS x p = b → x.ok = true → p.ok = true → (b = true ∨ (p.src = x.src ∧ p.dst = x.dst)) → stepS x p = (if rulesS x b p = [] then ((stepAll b p.chunks x []).1, []) else (x, rulesS x b p)) := by
    intro b hb h1 h2 h3
    subst hb
    unfold stepS
    rw [if_pos]
    simp [mineS, h1, h2]
    rcases h3 with h3 | h3
    · left; exact h3
    · right; exact h3
  have bad : (x.ok = false ∨ p.ok = false ∨ ¬ (byBS x p = true ∨ (p.src = x.src ∧ p.dst = x.dst))) → stepS x p = (zAssoc, []) := by
    intro h
    unfold stepS
    rw [if_neg]
    simp [mineS]
    rcases h with h | h | h
    · simp [h]
    · simp [h]
    · intro _ _
      simp at h
      exact ⟨by simp [h.1], h.2⟩
  simp only [assoc_v, packet_v] at f1 f2
  have bb : byBS x p = (decide (p.src = x.dst) && decide (p.dst = x.src)) := by simp [byBS]
  rcases hxo : x.ok with _ | _
  · rw [bad (Or.inl hxo)]
    rw [hxo] at f1
    simp [ac_impl_AssocStep, assoc_v, packet_v]
    refine goCall_eq f1 (by simp) ?_
    simp
    exact Ends.mk [(0, none, 0, 1)] [] (by simp [zAssoc, zSide, isl])
  · rcases hpo : p.ok with _ | _
    · rw [bad (Or.inr (Or.inl hpo))]
      rw [hxo] at f1
      rw [hpo] at f2
      simp [ac_impl_AssocStep, assoc_v, packet_v]
      refine goCall_eq f1 (by simp) ?_
      simp
      refine goCall_eq f2 (by simp) ?_
      simp
      exact Ends.mk [(0, none, 0, 1)] [] (by simp [zAssoc, zSide, isl])
    · have hl : p.chunks.length ≤ 4 := by simp [Packet.ok, inB] at hpo; omega
      have hbody : ∀ c ∈ p.chunks, c.body.length ≤ 1000000 := by
        intro c hc
        simp [Packet.ok] at hpo
        have := hpo.1.1.1.1.1 c hc
        simp [Chunk.ok] at this
        omega
      have f5 := impl_PacketAlone_ok p hp
      rw [hxo] at f1
      rw [hpo] at f2
      have c1 := copyAssoc_ok x (by have := hx.1.2; omega) (by have := hx.2.2; omega)
      have key2 := key _ rfl hxo hpo
      have bad2 := fun h => bad (Or.inr (Or.inr h))
      rw [rulesS_marks] at key2
      rw [bb] at key2 bad2
      clear key bad
      simp only [assoc_v, packet_v, own_c] at f5 c1
      have bad3 : ((decide (p.src = x.dst) && decide (p.dst = x.src)) || (decide (p.src = x.src) && decide (p.dst = x.dst))) = false → stepS x p = (zAssoc, []) := by
        intro h
        refine bad2 fun q => ?_
        rcases q with q | ⟨q1, q2⟩
        · rw [q] at h; simp at h
        · simp [q1, q2] at h
      have cond : ((decide (p.src = x.dst) && decide (p.dst = x.src)) || (decide (p.src = x.src) && decide (p.dst = x.dst))) = true → ((decide (p.src = x.dst) && decide (p.dst = x.src)) = true ∨ (p.src = x.src ∧ p.dst = x.dst)) := by
        intro h
        simp only [Bool.or_eq_true] at h
        rcases h with h | h
        · left; exact h
        · right; simpa using h
      have key3 := fun h => key2 (cond h)
      clear cond
      clear bad2 key2 bb
      generalize stepS x p = R at *
      cases e1 : decide (p.src = x.dst) <;> cases e2 : decide (p.dst = x.src) <;> cases e3 : decide (p.src = x.src) <;> cases e4 : decide (p.dst = x.dst) <;> simp [ac_impl_AssocStep, assoc_v, packet_v, e1, e2, e3, e4]
      all_goals
        refine goCall_eq f1 (by simp) ?_
        simp
        refine goCall_eq f2 (by simp) ?_
        simp [e1, e2, e3, e4]
        first
          | (rw [e1, e2, e3, e4] at bad3
             rw [bad3 rfl]
             refine Ends.mk [(0, none, 0, 1)] [] ?_
             simp [zAssoc, zSide, isl]
             done)
          | (clear bad3
             rw [e1, e2, e3, e4] at key3
             have key3 := key3 rfl
             simp only [Bool.and_true, Bool.and_false, Bool.and_self] at key3
             have key3 : R = if (marks (brokS x false p (stepAll false p.chunks x []).2) 12).map (fun k : Nat => (k : Int)) = [] then ((stepAll false p.chunks x []).1, []) else (x, (marks (brokS x false p (stepAll false p.chunks x []).2) 12).map (fun k : Nat => (k : Int))) := key3
             clear e1 e2 e3 e4
             have hst : tagI p.chunks x.b.tag = tagS x false p := rfl
             refine goCall_eq f5 (by simp) ?_
             simp
             refine go_loop (fun i => { env := [(2, .ptr 2 0), (3, .ptr 3 0), (4, .ptr 4 0), (6, .bool false), (7, .ptr 7 0), (8, .int .i64 (tagI (p.chunks.take i) x.b.tag)), (69, csl p.chunks), (70, .int .i64 (p.chunks.length : Nat)), (71, .int .i64 (i : Nat))], loc := [], box := [(2, x.cells), (3, p.cells), (4, List.replicate 14 .undef), (7, [.bool false, .bool (!p.alone), .bool false, .bool false, .bool false, .bool false, .bool false, .bool false, .bool false, .bool false, .bool false, .bool false])], stat := [] }) (fun i => i ≤ p.chunks.length) (fun i => p.chunks.length - i) 0 (by omega) (Weak.of [] [(2, 2), (3, 3), (4, 4), (7, 7)] (by simp [csl, Assoc.cells, Side.cells, psl, Packet.cells, List.replicate, tagI_nil])) ?_
             intro i hi
             simp [csl, Assoc.cells, Side.cells, psl, Packet.cells]
             refine goTest_dec (fun hlt => ?_) (fun hge => ?_)
             · have hsn := tagI_snoc hlt x.b.tag
               simp [hlt, chunk_v]
               refine goTest_dec (fun q => ?_) (fun q => ?_)
               · simp
                 refine ⟨by omega, Again.mk (i + 1) hlt (by omega) (Weak.of [] [(2, 2), (3, 3), (4, 4), (7, 7)] ?_)⟩
                 simp [hsn, q]
               · simp
                 refine ⟨by omega, Again.mk (i + 1) hlt (by omega) (Weak.of [] [(2, 2), (3, 3), (4, 4), (7, 7)] ?_)⟩
                 simp [hsn, q]
             · obtain rfl : i = p.chunks.length := by omega
               simp [hst]
               refine goCall_eq c1 (by simp) ?_
               simp
               refine go_loop (fun i => { env := [(2, .ptr 2 0), (3, .ptr 3 0), (4, .ptr 4 0), (6, .bool false), (7, .ptr 7 0), (11, .ptr 11 0), (87, csl p.chunks), (88, .int .i64 (p.chunks.length : Nat)), (89, .int .i64 (i : Nat))], loc := [], box := [(2, x.cells), (3, p.cells), (4, List.replicate 14 .undef), (7, boolsV (brokI x false p (stepAll false (p.chunks.take i) x []).2)), (11, (stepAll false (p.chunks.take i) x []).1.own 0 1)], stat := [(0, some (.own (stepAll false (p.chunks.take i) x []).1.a.sent.length 7)), (1, some (.own (stepAll false (p.chunks.take i) x []).1.b.sent.length 7))] }) (fun i => i ≤ p.chunks.length) (fun i => p.chunks.length - i) 0 (by omega) (Weak.of [(0, some 1360, x.a.sent.length, 7), (1, some 1361, x.b.sent.length, 7)] [(2, 2), (3, 3), (4, 4), (7, 7), (11, 11)] (by simp [csl, Assoc.cells, Side.cells, psl, Packet.cells, List.replicate, own_c, boolsV, brokI, brokS, stepAll, brok0, List.range, List.range.loop])) ?_
               intro i hi
               have hok := stepAll_ok false (p.chunks.take i) [] hxo
               simp [csl, Assoc.cells, Side.cells, psl, Packet.cells, own_c]
               refine goTest_dec (fun hlt => ?_) (fun hge => ?_)
               · have hsn := stepAll_snoc false (nth p.chunks i) (p.chunks.take i) x []
                 rw [← take_nth hlt] at hsn
                 generalize hy : stepAll false (p.chunks.take i) x [] = y at *
                 have g3 := handle_ok y.1 false (nth p.chunks i) (hbody _ (nth_mem hlt)) hok
                 have hr := stepC_rule y.1 false (nth p.chunks i)
                 simp only [chunk_v, own_c] at g3
                 simp [hlt, chunk_v]
                 generalize stepC y.1 false (nth p.chunks i) = z at *
                 obtain ⟨z1, z2⟩ := z
                 obtain ⟨n, rfl⟩ : ∃ n : Nat, z2 = n := ⟨z2.toNat, by simp at hr; omega⟩
                 simp at hr
                 have hn : n < 12 := by omega
                 have hbs := brokI_snoc x false p y.2 n
                 refine goCall_gen [(0, some 0, y.1.a.sent.length, 7), (1, some 1, y.1.b.sent.length, 7)] [(1000, 11)] [] [] none g3 (by simp) ?_
                 simp
                 refine goTest_dec (fun q => ?_) (fun q => ?_)
                 · rw [if_pos q] at hbs
                   simp
                   refine ⟨by omega, Again.mk (i + 1) hlt (by omega) (Weak.of [(0, some 1520, z1.a.sent.length, 7), (1, some 1521, z1.b.sent.length, 7)] [(2, 2), (3, 3), (4, 4), (7, 7), (11, 11)] ?_)⟩
                   simp [hsn, hbs]
                 · rw [if_neg q] at hbs
                   have hput := put_bool (f := brokI x false p y.2) (b := true) hn
                   rw [← hbs] at hput
                   simp [hn, boolsV_len, hput]
                   refine ⟨by omega, by omega, Again.mk (i + 1) hlt (by omega) (Weak.of [(0, some 1520, z1.a.sent.length, 7), (1, some 1521, z1.b.sent.length, 7)] [(2, 2), (3, 3), (4, 4), (7, 7), (11, 11)] ?_)⟩
                   simp [hsn]
               · obtain rfl : i = p.chunks.length := by omega
                 simp [boolsV_len, take_bools]
                 simp at hok
                 have hmb := marks_brokI x false p (stepAll false p.chunks x []).2
                 rw [← hmb] at key3
                 have hf1 : ∀ k, brokI x false p (stepAll false p.chunks x []).2 k = true → 1 ≤ k := by
                   intro k h; unfold brokI at h; simp at h; omega
                 generalize brokI x false p (stepAll false p.chunks x []).2 = f at *
                 generalize stepAll false p.chunks x [] = y at *
                 have hml := marks_len f
                 refine go_loop (fun k => { env := [(2, .ptr 2 0), (4, .ptr 4 0), (11, .ptr 11 0), (102, .agg (boolsV f)), (15, .sl (some 2) 1 ((marks f k).map nV)), (103, .int .i64 (k : Nat))], loc := [], box := [(2, x.cells), (4, List.replicate 14 .undef), (11, y.1.own 0 1)], stat := [(0, some (.own y.1.a.sent.length 7)), (1, some (.own y.1.b.sent.length 7)), (2, some (.own (marks f k).length 1))] }) (fun k => k ≤ 12) (fun k => 12 - k) 0 (by omega) (Weak.of [(0, some 0, y.1.a.sent.length, 7), (1, some 1, y.1.b.sent.length, 7), (2, some 1616, 0, 1)] [(2, 2), (4, 4), (11, 11)] (by simp [csl, Assoc.cells, Side.cells, psl, marks, List.range, List.range.loop, List.replicate, own_c])) ?_
                 intro k hk2
                 simp [Assoc.cells, Side.cells, psl, own_c]
                 refine goTest_dec (fun hlt => ?_) (fun hge => ?_)
                 · have hms := marks_succ f k
                   have hmk := hml k
                   simp [hlt, getD_bool hlt, boolsV_len]
                   cases hfk : f k
                   · simp [hfk] at hms
                     simp
                     refine ⟨by omega, by omega, Again.mk (k + 1) (by omega) (by omega) (Weak.of [(0, some 0, y.1.a.sent.length, 7), (1, some 1, y.1.b.sent.length, 7), (2, some 2, (marks f k).length, 1)] [(2, 2), (4, 4), (11, 11)] ?_)⟩
                     simp [hms]
                   · have hk1 : 1 ≤ k := hf1 k hfk
                     simp [hfk, hk1] at hms
                     simp
                     refine ⟨by omega, by unfold roomOk; omega, by omega, Again.mk (k + 1) (by omega) (by omega) (Weak.of [(0, some 0, y.1.a.sent.length, 7), (1, some 1, y.1.b.sent.length, 7), (2, some 2, (marks f k).length + 1, 1)] [(2, 2), (4, 4), (11, 11)] ?_)⟩
                     simp [hms, nV]
                 · obtain rfl : k = 12 := by omega
                   rw [key3]
                   simp
                   refine goTest_dec (fun hp => ?_) (fun hz => ?_)
                   · have hne : ¬ (marks f 12) = [] := by intro e; rw [e] at hp; simp at hp
                     simp [hne]
                     refine goCall_eq c1 (by simp) ?_
                     simp
                     refine Ends.mk [(0, some 2, (marks f 12).length, 1)] [] ?_
                     simp [isl, nV, iV]
                   · have hne : (marks f 12) = [] := by simpa using hz
                     simp [hne]
                     refine Ends.mk [(0, none, 0, 1)] [] ?_
                     simp [isl, hne])
          | (clear bad3
             rw [e1, e2, e3, e4] at key3
             have key3 := key3 rfl
             simp only [Bool.and_true, Bool.and_false, Bool.and_self] at key3
             have key3 : R = if (marks (brokS x true p (stepAll true p.chunks x []).2) 12).map (fun k : Nat => (k : Int)) = [] then ((stepAll true p.chunks x []).1, []) else (x, (marks (brokS x true p (stepAll true p.chunks x []).2) 12).map (fun k : Nat => (k : Int))) := key3
             clear e1 e2 e3 e4
             have hst : tagI p.chunks x.a.tag = tagS x true p := rfl
             refine goCall_eq f5 (by simp) ?_
             simp
             refine go_loop (fun i => { env := [(2, .ptr 2 0), (3, .ptr 3 0), (4, .ptr 4 0), (6, .bool true), (7, .ptr 7 0), (8, .int .i64 (tagI (p.chunks.take i) x.a.tag)), (69, csl p.chunks), (70, .int .i64 (p.chunks.length : Nat)), (71, .int .i64 (i : Nat))], loc := [], box := [(2, x.cells), (3, p.cells), (4, List.replicate 14 .undef), (7, [.bool false, .bool (!p.alone), .bool false, .bool false, .bool false, .bool false, .bool false, .bool false, .bool false, .bool false, .bool false, .bool false])], stat := [] }) (fun i => i ≤ p.chunks.length) (fun i => p.chunks.length - i) 0 (by omega) (Weak.of [] [(2, 2), (3, 3), (4, 4), (7, 7)] (by simp [csl, Assoc.cells, Side.cells, psl, Packet.cells, List.replicate, tagI_nil])) ?_
             intro i hi
             simp [csl, Assoc.cells, Side.cells, psl, Packet.cells]
             refine goTest_dec (fun hlt => ?_) (fun hge => ?_)
             · have hsn := tagI_snoc hlt x.a.tag
               simp [hlt, chunk_v]
               refine goTest_dec (fun q => ?_) (fun q => ?_)
               · simp
                 refine ⟨by omega, Again.mk (i + 1) hlt (by omega) (Weak.of [] [(2, 2), (3, 3), (4, 4), (7, 7)] ?_)⟩
                 simp [hsn, q]
               · simp
                 refine ⟨by omega, Again.mk (i + 1) hlt (by omega) (Weak.of [] [(2, 2), (3, 3), (4, 4), (7, 7)] ?_)⟩
                 simp [hsn, q]
             · obtain rfl : i = p.chunks.length := by omega
               simp [hst]
               refine goCall_eq c1 (by simp) ?_
               simp
               refine go_loop (fun i => { env := [(2, .ptr 2 0), (3, .ptr 3 0), (4, .ptr 4 0), (6, .bool true), (7, .ptr 7 0), (11, .ptr 11 0), (87, csl p.chunks), (88, .int .i64 (p.chunks.length : Nat)), (89, .int .i64 (i : Nat))], loc := [], box := [(2, x.cells), (3, p.cells), (4, List.replicate 14 .undef), (7, boolsV (brokI x true p (stepAll true (p.chunks.take i) x []).2)), (11, (stepAll true (p.chunks.take i) x []).1.own 0 1)], stat := [(0, some (.own (stepAll true (p.chunks.take i) x []).1.a.sent.length 7)), (1, some (.own (stepAll true (p.chunks.take i) x []).1.b.sent.length 7))] }) (fun i => i ≤ p.chunks.length) (fun i => p.chunks.length - i) 0 (by omega) (Weak.of [(0, some 1360, x.a.sent.length, 7), (1, some 1361, x.b.sent.length, 7)] [(2, 2), (3, 3), (4, 4), (7, 7), (11, 11)] (by simp [csl, Assoc.cells, Side.cells, psl, Packet.cells, List.replicate, own_c, boolsV, brokI, brokS, stepAll, brok0, List.range, List.range.loop])) ?_
               intro i hi
               have hok := stepAll_ok true (p.chunks.take i) [] hxo
               simp [csl, Assoc.cells, Side.cells, psl, Packet.cells, own_c]
               refine goTest_dec (fun hlt => ?_) (fun hge => ?_)
               · have hsn := stepAll_snoc true (nth p.chunks i) (p.chunks.take i) x []
                 rw [← take_nth hlt] at hsn
                 generalize hy : stepAll true (p.chunks.take i) x [] = y at *
                 have g3 := handle_ok y.1 true (nth p.chunks i) (hbody _ (nth_mem hlt)) hok
                 have hr := stepC_rule y.1 true (nth p.chunks i)
                 simp only [chunk_v, own_c] at g3
                 simp [hlt, chunk_v]
                 generalize stepC y.1 true (nth p.chunks i) = z at *
                 obtain ⟨z1, z2⟩ := z
                 obtain ⟨n, rfl⟩ : ∃ n : Nat, z2 = n := ⟨z2.toNat, by simp at hr; omega⟩
                 simp at hr
                 have hn : n < 12 := by omega
                 have hbs := brokI_snoc x true p y.2 n
                 refine goCall_gen [(0, some 0, y.1.a.sent.length, 7), (1, some 1, y.1.b.sent.length, 7)] [(1000, 11)] [] [] none g3 (by simp) ?_
                 simp
                 refine goTest_dec (fun q => ?_) (fun q => ?_)
                 · rw [if_pos q] at hbs
                   simp
                   refine ⟨by omega, Again.mk (i + 1) hlt (by omega) (Weak.of [(0, some 1520, z1.a.sent.length, 7), (1, some 1521, z1.b.sent.length, 7)] [(2, 2), (3, 3), (4, 4), (7, 7), (11, 11)] ?_)⟩
                   simp [hsn, hbs]
                 · rw [if_neg q] at hbs
                   have hput := put_bool (f := brokI x true p y.2) (b := true) hn
                   rw [← hbs] at hput
                   simp [hn, boolsV_len, hput]
                   refine ⟨by omega, by omega, Again.mk (i + 1) hlt (by omega) (Weak.of [(0, some 1520, z1.a.sent.length, 7), (1, some 1521, z1.b.sent.length, 7)] [(2, 2), (3, 3), (4, 4), (7, 7), (11, 11)] ?_)⟩
                   simp [hsn]
               · obtain rfl : i = p.chunks.length := by omega
                 simp [boolsV_len, take_bools]
                 simp at hok
                 have hmb := marks_brokI x true p (stepAll true p.chunks x []).2
                 rw [← hmb] at key3
                 have hf1 : ∀ k, brokI x true p (stepAll true p.chunks x []).2 k = true → 1 ≤ k := by
                   intro k h; unfold brokI at h; simp at h; omega
                 generalize brokI x true p (stepAll true p.chunks x []).2 = f at *
                 generalize stepAll true p.chunks x [] = y at *
                 have hml := marks_len f
                 refine go_loop (fun k => { env := [(2, .ptr 2 0), (4, .ptr 4 0), (11, .ptr 11 0), (102, .agg (boolsV f)), (15, .sl (some 2) 1 ((marks f k).map nV)), (103, .int .i64 (k : Nat))], loc := [], box := [(2, x.cells), (4, List.replicate 14 .undef), (11, y.1.own 0 1)], stat := [(0, some (.own y.1.a.sent.length 7)), (1, some (.own y.1.b.sent.length 7)), (2, some (.own (marks f k).length 1))] }) (fun k => k ≤ 12) (fun k => 12 - k) 0 (by omega) (Weak.of [(0, some 0, y.1.a.sent.length, 7), (1, some 1, y.1.b.sent.length, 7), (2, some 1616, 0, 1)] [(2, 2), (4, 4), (11, 11)] (by simp [csl, Assoc.cells, Side.cells, psl, marks, List.range, List.range.loop, List.replicate, own_c])) ?_
                 intro k hk2
                 simp [Assoc.cells, Side.cells, psl, own_c]
                 refine goTest_dec (fun hlt => ?_) (fun hge => ?_)
                 · have hms := marks_succ f k
                   have hmk := hml k
                   simp [hlt, getD_bool hlt, boolsV_len]
                   cases hfk : f k
                   · simp [hfk] at hms
                     simp
                     refine ⟨by omega, by omega, Again.mk (k + 1) (by omega) (by omega) (Weak.of [(0, some 0, y.1.a.sent.length, 7), (1, some 1, y.1.b.sent.length, 7), (2, some 2, (marks f k).length, 1)] [(2, 2), (4, 4), (11, 11)] ?_)⟩
                     simp [hms]
                   · have hk1 : 1 ≤ k := hf1 k hfk
                     simp [hfk, hk1] at hms
                     simp
                     refine ⟨by omega, by unfold roomOk; omega, by omega, Again.mk (k + 1) (by omega) (by omega) (Weak.of [(0, some 0, y.1.a.sent.length, 7), (1, some 1, y.1.b.sent.length, 7), (2, some 2, (marks f k).length + 1, 1)] [(2, 2), (4, 4), (11, 11)] ?_)⟩
                     simp [hms, nV]
                 · obtain rfl : k = 12 := by omega
                   rw [key3]
                   simp
                   refine goTest_dec (fun hp => ?_) (fun hz => ?_)
                   · have hne : ¬ (marks f 12) = [] := by intro e; rw [e] at hp; simp at hp
                     simp [hne]
                     refine goCall_eq c1 (by simp) ?_
                     simp
                     refine Ends.mk [(0, some 2, (marks f 12).length, 1)] [] ?_
                     simp [isl, nV, iV]
                   · have hne : (marks f 12) = [] := by simpa using hz
                     simp [hne]
                     refine Ends.mk [(0, none, 0, 1)] [] ?_
                     simp [isl, hne])
end
section
set_option maxRecDepth 200000
set_option maxHeartbeats 4000000
attribute [-simp] List.getD_eq_getElem?_getD
def recOk (r : Tap) (last : Int) : Bool := decide (last ≤ r.time) && decide (r.time ≤ 4294967295) && decide (r.text.length ≤ 120)
theorem timesOk_cons (t : Int) (r : Tap) (l : List Tap) : timesOk t (r :: l) = (recOk r t && timesOk r.time l) := rfl
theorem l14Record_ok (r : Tap) (last : Int) : Fn Tryz.prog fn_spec_l14Record [r.v, .int .i64 last] [] (.bool (recOk r last)) [] := by
  refine Fn.of_go ln_spec_l14Record rfl ?_
  simp [ac_spec_l14Record, rec_v]
  refine goCall_eq (l6In_ok _ _ _) (by simp) ?_
  simp
  have e : recOk r last = (inB r.time last 4294967295 && decide (r.text.length ≤ 120)) := rfl
  cases q : inB r.time last 4294967295
  · rw [q] at e
    simp [e]
    exact Ends.mk [] [] (by simp)
  · rw [q] at e
    simp [e]
    exact Ends.mk [] [] (by simp)
theorem spec_CaptureValid_ok (l : List Tap) (hl : l.length ≤ 1000000) : Fn Tryz.prog fn_spec_CaptureValid [rsl l] [] (.bool (capOk l)) [] := by
  refine Fn.of_go ln_spec_CaptureValid rfl ?_
  simp [ac_spec_CaptureValid, rsl]
  refine go_loop (fun x : Nat × Int => { env := [(0, rsl l), (3, .int .i64 x.2), (4, .int .i64 (x.1 : Nat))], loc := [], box := [], stat := [] }) (fun x => x.1 ≤ l.length ∧ timesOk 0 l = timesOk x.2 (l.drop x.1)) (fun x => l.length - x.1) (0, 0) ⟨by simp, by simp⟩ (Weak.of [] [] (by simp [rsl])) ?_
  rintro ⟨i, last⟩ ⟨hi, ht⟩
  simp at hi ht
  simp [rsl]
  refine goTest_dec (fun hlt => ?_) (fun hge => ?_)
  · rw [drop_nth hlt, timesOk_cons] at ht
    have f1 := l14Record_ok (nth l i) last
    simp only [rec_v] at f1
    simp [hlt, rec_v]
    refine goCall_eq f1 (by simp) ?_
    simp
    refine goTest_bool (fun q => ?_) (fun q => ?_)
    · rw [q, Bool.true_and] at ht
      simp [hlt, rec_v]
      exact ⟨by omega, Again.mk (i + 1, (nth l i).time) ⟨by simp; omega, by simpa using ht⟩ (by simp; omega) (Weak.of [] [] (by simp [rsl]))⟩
    · rw [q, Bool.false_and] at ht
      simp
      exact Ends.mk [] [] (by simp [capOk, ht])
  · obtain rfl : i = l.length := by omega
    simp [timesOk] at ht
    simp
    exact Ends.mk [] [] (by simp [capOk, ht])
def Monitor.own (σ τ : Nat) (m : Monitor) : V := .agg [.int .i64 m.records, .sl (some σ) 14 (m.list.map Assoc.v), .sl (some τ) 2 (m.found.map fV)]
theorem mon_v (m : Monitor) : m.v = .agg [.int .i64 m.records, .sl none 14 (m.list.map Assoc.v), .sl none 2 (m.found.map fV)] := rfl
structure Monitor.bd (m : Monitor) : Prop where
  recs : -1000 ≤ m.records ∧ m.records ≤ 1000000
  len : m.list.length ≤ 1000
  each : ∀ x ∈ m.list, x.bd
  found : m.found.length ≤ 1000000
theorem l32Pair_ok (x y : Assoc) : Fn Tryz.prog fn_spec_l32Pair [x.v, y.v] [] (.bool (meet x.ports y.ports)) [] := by
  refine Fn.of_go ln_spec_l32Pair rfl ?_
  have e : meet x.ports y.ports = ((decide (x.src = y.src) && decide (x.dst = y.dst)) || (decide (x.src = y.dst) && decide (x.dst = y.src))) := rfl
  cases e1 : decide (x.src = y.src) <;> cases e2 : decide (x.dst = y.dst) <;> cases e3 : decide (x.src = y.dst) <;> cases e4 : decide (x.dst = y.src)
  all_goals
    rw [e1, e2, e3, e4] at e
    simp [ac_spec_l32Pair, assoc_v, e1, e2, e3, e4]
    rw [e]
    exact Ends.mk [] [] (by simp)
theorem samePorts_ok (x : Assoc) (a b : Int) : Fn Tryz.prog fn_impl_samePorts [x.v, .int .i64 a, .int .i64 b] [] (.bool (meet x.ports (a, b))) [] := by
  refine Fn.of_go ln_impl_samePorts rfl ?_
  have e : meet x.ports (a, b) = ((decide (x.src = a) && decide (x.dst = b)) || (decide (x.src = b) && decide (x.dst = a))) := rfl
  cases e1 : decide (x.src = a) <;> cases e2 : decide (x.dst = b) <;> cases e3 : decide (x.src = b) <;> cases e4 : decide (x.dst = a)
  all_goals
    rw [e1, e2, e3, e4] at e
    simp [ac_impl_samePorts, assoc_v, e1, e2, e3, e4]
    rw [e]
    exact Ends.mk [] [] (by simp)
theorem findM_hit {l : List Assoc} {a b : Int} {i : Nat} (hi : i < l.length) (hm : meet (nth l i).ports (a, b) = true) (h : ∀ j, j < i → meet (nth l j).ports (a, b) = false) : findM l a b = some i := by
  unfold findM
  rw [List.findIdx?_eq_some_iff_getElem]
  refine ⟨hi, by rw [← nth_eq hi]; exact hm, fun j hj => ?_⟩
  have := h j hj
  rw [nth_eq (by omega)] at this
  simp [this]
theorem findM_miss {l : List Assoc} {a b : Int} (h : ∀ j, j < l.length → meet (nth l j).ports (a, b) = false) : findM l a b = none := by
  unfold findM
  rw [List.findIdx?_eq_none_iff]
  intro x hx
  obtain ⟨j, hj, rfl⟩ := List.getElem_of_mem hx
  have := h j hj
  rwa [nth_eq hj] at this
def idxV (o : Option Nat) : Int := match o with
  | some k => k
  | none => -1
theorem l32Find_ok (m : Monitor) (a b : Int) (hm : m.list.length ≤ 1000) : Fn Tryz.prog fn_spec_l32Find [m.v, .int .i64 a, .int .i64 b] [] (.int .i64 (idxV (findM m.list a b))) [] := by
  refine Fn.of_go ln_spec_l32Find rfl ?_
  simp [ac_spec_l32Find, mon_v]
  refine go_loop (fun i => { env := [(1, .int .i64 a), (2, .int .i64 b), (3, .ptr 3 0), (7, .int .i64 (i : Nat))], loc := [], box := [(3, [.int .i64 m.records, .sl none 14 (m.list.map Assoc.v), .sl none 2 (m.found.map fV)])], stat := [] }) (fun i => i ≤ m.list.length ∧ ∀ j, j < i → meet (nth m.list j).ports (a, b) = false) (fun i => m.list.length - i) 0 ⟨by omega, fun j hj => by omega⟩ (Weak.of [] [(3, 3)] (by simp)) ?_
  rintro i ⟨hi, hno⟩
  simp
  refine goTest_dec (fun hlt => ?_) (fun hge => ?_)
  · have f1 := l32Pair_ok (nth m.list i) ⟨a, b, 0, false, zSide, zSide⟩
    simp only [assoc_v] at f1
    simp [hlt, assoc_v]
    refine goCall_gen [] [] [] [] none f1 (by simp [zSide]) ?_
    simp
    refine goTest_bool (fun q => ?_) (fun q => ?_)
    · rw [findM_hit hlt q hno]
      simp
      exact Ends.mk [] [] (by simp [idxV])
    · simp
      refine ⟨by omega, Again.mk (i + 1) ⟨hlt, fun j hj => ?_⟩ (by omega) (Weak.of [] [(3, 3)] (by simp))⟩
      rcases Nat.lt_succ_iff_lt_or_eq.1 hj with h | rfl
      · exact hno j h
      · exact q
  · obtain rfl : i = m.list.length := by omega
    rw [findM_miss hno]
    simp
    exact Ends.mk [] [] (by simp [idxV])
theorem l32Note_ok (m : Monitor) (k : Int) (hf : m.found.length ≤ 1000000) (hr : -1000 ≤ m.records ∧ m.records ≤ 1000000) : Fn Tryz.prog fn_spec_l32Note [m.own 0 1, .int .i64 k] [] ((⟨m.records, m.list, m.found ++ [(m.records - 1, k)]⟩ : Monitor).own 0 1) [] := by
  refine Fn.of_go ln_spec_l32Note rfl ?_
  simp [ac_spec_l32Note, Monitor.own]
  repeat' (first
    | (refine And.intro (by omega) ?_)
    | (refine And.intro (by unfold roomOk; omega) ?_))
  exact Ends.mk [(0, some 0, m.list.length, 14), (1, some 1, m.found.length + 1, 2)] [] (by simp [fV])
theorem stepS_len (x : Assoc) (p : Packet) : (stepS x p).2.length ≤ 12 := by
  cases h : mineS x p
  · rw [stepS_other h]; simp
  · rw [stepS_rules h, rulesS_marks]
    simpa using marks_len _ 12
theorem textL_told (l : List Assoc) (t : List UInt8) : (textL l t).2.length ≤ 12 := by
  unfold textL
  split
  · simp
  · unfold packL
    split
    · unfold beginL
      split
      · simp
      split
      · exact stepS_len _ _
      split <;> simp
    · split
      · unfold beginL
        split
        · simp
        split
        · exact stepS_len _ _
        split <;> simp
      · exact stepS_len _ _
structure Monitor.sm (m : Monitor) (n : Nat) : Prop where
  recs : 0 ≤ m.records ∧ m.records ≤ 60
  len : m.list.length ≤ 3
  each : ∀ x ∈ m.list, x.ok = true
  found : m.found.length ≤ n
theorem Monitor.sm.bd {m : Monitor} {n : Nat} (h : m.sm n) (hn : n ≤ 1000000) : m.bd :=
  ⟨by have := h.recs; omega, by have := h.len; omega, fun x hx => Assoc.ok_bd (h.each x hx), by have := h.found; omega⟩
theorem zMonitor_sm (n : Nat) : zMonitor.sm n := ⟨by decide, by decide, (fun x hx => by cases hx), by simp [zMonitor]⟩
theorem run_sm (l : List Tap) : (runS l).sm 1000 := by
  unfold runS
  split
  · rename_i q
    simp only [capOk, Bool.and_eq_true, decide_eq_true_eq] at q
    have ho := foldM_ok l (mon_iff.1 zMonitor_ok) (by simp [zMonitor]; omega)
    have hf : ∀ (l : List Tap) (m : Monitor), (foldM m l).found.length ≤ m.found.length + 12 * l.length := by
      intro l
      induction l with
      | nil => intro m; simp [foldM]
      | cons r s ih =>
        intro m
        have h1 := ih (monStep m r.text)
        have h2 := textL_told m.list r.text
        show (foldM (monStep m r.text) s).found.length ≤ _
        simp [monStep] at h1 ⊢
        omega
    have h0 := hf l zMonitor
    have e0 : zMonitor.found.length = 0 := rfl
    rw [e0] at h0
    exact ⟨ho.recs, ho.len, fun x hx => (ho.each x hx).1, by omega⟩
  · exact zMonitor_sm _
end
section
set_option maxRecDepth 200000
set_option maxHeartbeats 4000000
attribute [-simp] List.getD_eq_getElem?_getD
theorem tdiv_many {n z : Nat} (hz : 1 ≤ z) : ((n : Int) + z - 1).tdiv z = (manyN n z : Nat) := by
  rw [show ((n : Int) + z - 1) = ((n + z - 1 : Nat) : Int) by omega]
  rfl
theorem l41Many_ok (t : List UInt8) (z : Nat) (hz : 1 ≤ z) (hz2 : z ≤ 1000000) (ht : t.length ≤ 1000000) : Fn Tryz.prog fn_spec_l41Many [.str t, .int .i64 z] [] (.int .i64 (manyN t.length z : Nat)) [] := by
  refine Fn.of_go ln_spec_l41Many rfl ?_
  have e := tdiv_many (n := t.length) hz
  have hm := many_le (n := t.length) hz
  simp [ac_spec_l41Many, e]
  repeat' (first | (refine And.intro (by omega) ?_))
  exact Ends.mk [] [] (by simp)
theorem bad_head {t : Talk} (h : t.head = false) : t.ok = false := by simp [Talk.ok, h]
theorem bad_say {t : Talk} {i : Nat} (hi : i < t.says.length) (h : sayOk t (nth t.says i) = false) : t.ok = false := by
  have := all_false hi h
  simp [Talk.ok, this]
theorem spec_TalkValid_ok (t : Talk) (hb : t.bd) : Fn Tryz.prog fn_spec_TalkValid [t.v] [] (.bool t.ok) [] := by
  refine Fn.of_go ln_spec_TalkValid rfl ?_
  have f1 := l12Init_ok t.a
  have f2 := l12Init_ok t.b
  simp only [hi_v] at f1 f2
  have hbad := bad_head (t := t)
  simp [ac_spec_TalkValid, talk_v]
  refine goCall_eq (l6In_ok _ _ _) (by simp) ?_
  cases q1 : inB t.src 1 65535
  · simp; exact Ends.mk [] [] (by simp [hbad (by simp [Talk.head, q1])])
  simp
  refine goCall_eq (l6In_ok _ _ _) (by simp) ?_
  cases q2 : inB t.dst 1 65535
  · simp; exact Ends.mk [] [] (by simp [hbad (by simp [Talk.head, q2])])
  simp
  cases q3 : decide (t.src = t.dst)
  rotate_left
  · simp; exact Ends.mk [] [] (by simp [hbad (by simp [Talk.head, of_decide_eq_true q3])])
  simp
  refine goCall_eq f1 (by simp) ?_
  cases q4 : t.a.ok
  · simp; exact Ends.mk [] [] (by simp [hbad (by simp [Talk.head, q4])])
  simp
  refine goCall_eq f2 (by simp) ?_
  cases q5 : t.b.ok
  · simp; exact Ends.mk [] [] (by simp [hbad (by simp [Talk.head, q5])])
  simp
  refine goCall_eq (l6In_ok _ _ _) (by simp) ?_
  cases q6 : inB t.size 1 20
  · simp; exact Ends.mk [] [] (by simp [hbad (by simp [Talk.head, q6])])
  simp
  have hhead : t.head = true := by simp [Talk.head, q1, q2, q4, q5, q6, of_decide_eq_false q3]
  have hz : 1 ≤ t.size ∧ t.size ≤ 20 := by simpa [inB] using q6
  obtain ⟨z, hze⟩ := Int.eq_ofNat_of_zero_le (show 0 ≤ t.size by omega)
  have hz1 : 1 ≤ z ∧ z ≤ 20 := by omega
  obtain ⟨sa, _, _, _, hsa⟩ := hello_facts q4
  obtain ⟨sb, _, _, _, hsb⟩ := hello_facts q5
  have hsz : t.size.toNat = z := by omega
  have hok : t.ok = (t.says.all (sayOk t) && decide (t.says.length ≤ 4) && decide (manyL z false t.says ≤ 12) && decide (manyL z true t.says ≤ 12)) := by
    simp [Talk.ok, hhead, hsz]
  refine go_loop (fun i => { env := [(1, .ptr 1 0), (3, .int .i64 (manyL z false (t.says.take i) : Nat)), (4, .int .i64 (manyL z true (t.says.take i) : Nat)), (5, .int .i64 (i : Nat))], loc := [], box := [(1, t.cells)], stat := [] }) (fun i => i ≤ t.says.length ∧ AllTake (sayOk t) t.says i) (fun i => t.says.length - i) 0 ⟨by omega, AllTake.zero⟩ (Weak.of [] [(1, 1)] (by simp [Talk.cells, Hello.cells, manyL])) ?_
  rintro i ⟨hi, hp⟩
  simp [Talk.cells, Hello.cells]
  refine goTest_dec (fun hlt => ?_) (fun hge => ?_)
  · have hsay := bad_say (t := t) hlt
    have ma := manyL_take (z := z) (b := false) hlt
    have mb := manyL_take (z := z) (b := true) hlt
    have la := manyL_le hz1.1 false (m := 100000) (t.says.take i) (fun x hx => hb.text x (List.mem_of_mem_take hx))
    have lb := manyL_le hz1.1 true (m := 100000) (t.says.take i) (fun x hx => hb.text x (List.mem_of_mem_take hx))
    have hsl := hb.says
    have htx := hb.text _ (nth_mem hlt)
    have hmn := many_le (n := (nth t.says i).text.length) hz1.1
    have g1 := l41Many_ok (nth t.says i).text z hz1.1 (by omega) (by omega)
    have hlen : (t.says.take i).length = i := by simp; omega
    rw [hlen] at la lb
    have hsd : sayOk t (nth t.says i) = (inB (nth t.says i).text.length 1 60 && (if (nth t.says i).byB then inB (nth t.says i).stream 0 (t.b.streams - 1) else inB (nth t.says i).stream 0 (t.a.streams - 1))) := rfl
    simp [hlt, say_v, hze]
    generalize hx : nth t.says i = x at *
    cases hbb : x.byB
    all_goals
      simp [hbb] at ma mb hsd
      refine goCall_eq (l6In_ok _ _ _) (by simp) ?_
      cases r1 : inB x.text.length 1 60
      · simp; exact Ends.mk [] [] (by simp [hsay (by simp [hsd, r1])])
      simp [hbb]
      refine ⟨by omega, ?_⟩
      refine goCall_eq (l6In_ok _ _ _) (by simp) ?_
      generalize r2 : inB x.stream _ _ = rb2 at *
      cases rb2
      · simp; exact Ends.mk [] [] (by simp [hsay (by simp [hsd, r2])])
      simp [hbb]
      refine goCall_eq g1 (by simp) ?_
      simp
      refine ⟨by omega, by omega, Again.mk (i + 1) ⟨hlt, hp.succ hlt (by rw [hx, hsd]; simp [r1])⟩ (by omega) (Weak.of [] [(1, 1)] (by simp [ma, mb]))⟩
  · obtain rfl : i = t.says.length := by omega
    have hall := hp.all
    rw [hok, hall]
    simp
    repeat' (first
      | (refine goTest_dec (fun q => ?_) (fun q => ?_) <;> simp [q])
      | (refine Ends.mk [] [] ?_; simp [*] <;> fail)
      | (refine Ends.mk [] [] ?_; simp [*] <;> omega))
end
end Go.Proofs.YtjkbbdmkgealfaaGreatDoor
