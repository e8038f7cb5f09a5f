/-
  Steps of monitors, by the reference.
  Steps and runs of monitors, by the reference.
  Monitors and associations drawn.
-/
import Derived.Test.YtnhhcfbigjpfeaaGreatDoorQ26
namespace Go.Proofs.YtnhhcfbigjpfeaaGreatDoor
set_option linter.all false

section
set_option maxRecDepth 200000
set_option maxHeartbeats 8000000
attribute [-simp] List.getD_eq_getElem?_getD

/-- What is told goes on behind what was found. -/
def told (m : Monitor) (r : List Int) : Monitor := ⟨m.records, m.list, m.found ++ r.map fun k => (m.records - 1, k)⟩
theorem newA_v (s d : Int) : (newA s d).v = .agg [.int .i64 s, .int .i64 d, .int .i64 0, .bool false, .int .i64 0, .int .i64 0, .int .i64 0, .sl none 7 [], .int .i64 0, .int .i64 0, .int .i64 0, .int .i64 0, .sl none 7 [], .int .i64 0] := rfl
theorem newA_bd (s d : Int) : (newA s d).bd := ⟨⟨by simp [newA, zSide], by simp [newA, zSide]⟩, ⟨by simp [newA, zSide], by simp [newA, zSide]⟩⟩

theorem l32Begin_ok (m : Monitor) (p : Packet) (hl : m.list.length ≤ 1000) (hf : m.found.length ≤ 900000) (hr : -1000 ≤ m.records ∧ m.records ≤ 1000000) (hp : p.ok = true) :
    Fn Tryz.prog fn_spec_l32Begin [m.own 0 1, p.v] [] ((⟨m.records, (beginL m.list p).1, m.found ++ (beginL m.list p).2.map fun k => (m.records - 1, k)⟩ : Monitor).own 0 1) [] := by
  refine Fn.of_go ln_spec_l32Begin rfl ?_
  have hpl := (packet_ok.1 hp).2.2.2.2.2
  have h0 : 0 < p.chunks.length := by omega
  have f1 := spec_AssocStep_ok (newA p.src p.dst) p (newA_bd _ _) (by omega)
  rw [newA_v] at f1
  have hln := stepS_len (newA p.src p.dst) p
  have hbl : beginL m.list p = (if (nth p.chunks 0).kind ≠ 1 then (m.list, [104]) else
    if (stepS (newA p.src p.dst) p).2 ≠ [] then (m.list, (stepS (newA p.src p.dst) p).2) else
    if 3 ≤ m.list.length then (m.list, [105]) else (m.list ++ [(stepS (newA p.src p.dst) p).1], [])) := rfl
  generalize beginL m.list p = B at *
  generalize stepS (newA p.src p.dst) p = r at *
  obtain ⟨y, rl⟩ := r
  simp only [packet_v, isl, assoc_v] at f1
  simp only at hln hbl
  have n1 := l32Note_ok m 104 (by omega) hr
  have n2 := l32Note_ok m 105 (by omega) hr
  simp only [Monitor.own] at n1 n2
  simp [ac_spec_l32Begin, Monitor.own, packet_v]
  refine goCall_gen [] [] [] [] none f1 (by simp) ?_
  simp [h0, chunk_v]
  refine goTest_dec (fun q1 => ?_) (fun q1 => ?_)
  rotate_left
  · rw [if_pos q1] at hbl
    subst hbl
    simp
    refine goCall_gen [(0, some 0, m.list.length, 14), (1, some 1, m.found.length, 2)] [] [] [] none n1 (by simp) ?_
    simp
    exact Ends.mk [(0, some 416, m.list.length, 14), (1, some 417, m.found.length + 1, 2)] [] (by simp)
  rw [if_neg (by simpa using q1)] at hbl
  simp
  refine goTest_dec (fun q2 => ?_) (fun q2 => ?_)
  · have hne : rl ≠ [] := by intro e; rw [e] at q2; simp at q2
    rw [if_pos hne] at hbl
    subst hbl
    simp
    refine go_loop (fun i => { env := [(2, .ptr 2 0), (4, .ptr 4 0), (6, isl rl), (7, .int .i64 (i : Nat))], loc := [], box := [(2, [.int .i64 m.records, .sl (some 0) 14 (m.list.map Assoc.v), .sl (some 1) 2 ((m.found ++ (rl.take i).map fun k => (m.records - 1, k)).map fV)]), (4, List.replicate 3 .undef)], stat := [(0, some (.own m.list.length 14)), (1, some (.own (m.found.length + i) 2))] }) (fun i => i ≤ rl.length) (fun i => rl.length - i) 0 (by omega) (Weak.of [(0, some 0, m.list.length, 14), (1, some 1, m.found.length, 2)] [(2, 2), (4, 4)] (by simp [isl, List.replicate])) ?_
    intro i hi
    have hmin : min i rl.length = i := by omega
    simp [isl]
    refine goTest_dec (fun hlt => ?_) (fun hge => ?_)
    · have hs := take_nth hlt
      have n3 := l32Note_ok ⟨m.records, m.list, m.found ++ (rl.take i).map fun k => (m.records - 1, k)⟩ (nth rl i) (by simp; omega) hr
      simp only [Monitor.own] at n3
      simp [hlt, iV]
      refine goCall_gen [(0, some 0, m.list.length, 14), (1, some 1, m.found.length + i, 2)] [] [] [] none n3 (by simp [hmin]) ?_
      simp [hmin]
      refine ⟨by omega, Again.mk (i + 1) hlt (by omega) (Weak.of [(0, some 672, m.list.length, 14), (1, some 673, m.found.length + (i + 1), 2)] [(2, 2), (4, 4)] ?_)⟩
      have hs2 : List.take (i + 1) (rl.map (fV ∘ fun k => (m.records - 1, k))) = List.take i (rl.map (fV ∘ fun k => (m.records - 1, k))) ++ [fV (m.records - 1, nth rl i)] := by rw [← List.map_take, hs]; simp [List.map_take]
      simp [isl, hs2, Nat.add_assoc]
    · obtain rfl : i = rl.length := by omega
      simp
      exact Ends.mk [(0, some 0, m.list.length, 14), (1, some 1, m.found.length + rl.length, 2)] [] (by simp [List.take_of_length_le])
  have hne : rl = [] := by simpa using q2
  subst hne
  rw [if_neg (by simp)] at hbl
  simp
  refine goTest_dec (fun q3 => ?_) (fun q3 => ?_)
  · rw [if_pos q3] at hbl
    subst hbl
    simp
    refine goCall_gen [(0, some 0, m.list.length, 14), (1, some 1, m.found.length, 2)] [] [] [] none n2 (by simp) ?_
    simp
    exact Ends.mk [(0, some 800, m.list.length, 14), (1, some 801, m.found.length + 1, 2)] [] (by simp)
  · rw [if_neg q3] at hbl
    subst hbl
    simp
    repeat' (first | (refine And.intro (by omega) ?_) | (refine And.intro (by unfold roomOk; omega) ?_) | fail)
    exact Ends.mk [(0, some 0, m.list.length + 1, 14), (1, some 1, m.found.length, 2)] [] (by simp [assoc_v])

theorem setEl_assoc {l : List Assoc} {j : Nat} {y : Assoc} (h : j < l.length) : setEl j 0 [.int .i64 y.src, .int .i64 y.dst, .int .i64 y.state, .bool y.byB, .int .i64 y.a.tag, .int .i64 y.a.streams, .int .i64 y.a.first, .sl none 7 (y.a.sent.map Part.v), .int .i64 y.a.acked, .int .i64 y.b.tag, .int .i64 y.b.streams, .int .i64 y.b.first, .sl none 7 (y.b.sent.map Part.v), .int .i64 y.b.acked] (l.map Assoc.v) = (l.set j y).map Assoc.v := by
  unfold setEl
  rw [getD_map h, List.map_set]
  simp [assoc_v, wrEl, setCells]

theorem l32Step_ok (m : Monitor) (s : List UInt8) (hm : m.bd) (hf : m.found.length ≤ 800000) (hr : -1000 ≤ m.records ∧ m.records ≤ 900000) (hs : s.length ≤ 1000000) :
    Fn Tryz.prog fn_spec_l32Step [m.v, .str s] [] ((monStep m s).own 0 1) [] := by
  refine Fn.of_go ln_spec_l32Step rfl ?_
  have hl := hm.len
  have c1 := l32Copy_ok m hm
  have g1 := spec_PacketGet_ok s hs
  have hcode := getP_code s
  have hgp := getP_ok (t := s)
  have ht : textL m.list s = if (getP s).2 ≠ 0 then (m.list, [100 + (getP s).2]) else packL m.list (getP s).1 := rfl
  have hR : (monStep m s).own 0 1 = .agg [.int .i64 (m.records + 1), .sl (some 0) 14 ((textL m.list s).1.map Assoc.v), .sl (some 1) 2 ((m.found ++ (textL m.list s).2.map fun r => (m.records, r)).map fV)] := rfl
  rw [hR]
  generalize textL m.list s = T at *
  generalize getP s = gp at *
  obtain ⟨p, code⟩ := gp
  simp only at hcode hgp ht
  simp only [Monitor.own, mon_v] at c1
  simp only [resP, packet_v] at g1
  simp [ac_spec_l32Step, mon_v]
  refine goCall_eq c1 (by simp) ?_
  simp
  refine ⟨by omega, ?_⟩
  refine goCall_eq g1 (by simp) ?_
  simp
  refine goTest_dec (fun q1 => ?_) (fun q1 => ?_)
  rotate_left
  · rw [if_pos q1] at ht
    subst ht
    have n1 := l32Note_ok ⟨m.records + 1, m.list, m.found⟩ (100 + code) (by simp; omega) (by simp; omega)
    simp only [Monitor.own] at n1
    have e : 101 + code - 1 = 100 + code := by omega
    simp [e]
    refine ⟨by omega, by omega, ?_⟩
    refine goCall_gen [(0, some 240, m.list.length, 14), (1, some 241, m.found.length, 2)] [] [] [] none n1 (by simp) ?_
    simp
    exact Ends.mk [(0, some 496, m.list.length, 14), (1, some 497, m.found.length + 1, 2)] [] (by simp [fV])
  rw [if_neg (by simpa using q1)] at ht
  have hp := hgp q1
  have hpl := (packet_ok.1 hp).2.2.2.2.2
  have h0 : 0 < p.chunks.length := by omega
  have f1 := l32Find_ok ⟨m.records + 1, m.list, m.found⟩ p.src p.dst hl
  simp only [mon_v] at f1
  simp
  refine goCall_gen [] [] [] [240, 241] none f1 (by simp) ?_
  have hpk : packL m.list p = match findM m.list p.src p.dst with
    | none => beginL m.list p
    | some i => if restartS m.list p i then beginL (m.list.eraseIdx i) p else (m.list.set i (stepS (nth m.list i) p).1, (stepS (nth m.list i) p).2) := rfl
  rw [hpk] at ht
  clear hpk
  cases hfm : findM m.list p.src p.dst with
  | none =>
    rw [hfm] at ht
    simp only at ht
    subst ht
    have b1 := l32Begin_ok ⟨m.records + 1, m.list, m.found⟩ p hl (by simp; omega) (by simp; omega) hp
    have hbl := begin_len m.list p
    simp only [Monitor.own, packet_v] at b1
    simp [idxV]
    generalize beginL m.list p = B at *
    refine goCall_gen [(0, some 240, m.list.length, 14), (1, some 241, m.found.length, 2)] [] [] [] none b1 (by simp) ?_
    simp
    exact Ends.mk [(0, some 1472, B.1.length, 14), (1, some 1473, m.found.length + B.2.length, 2)] [] (by simp)
  | some k =>
    rw [hfm] at ht
    simp only at ht
    obtain ⟨hk, -⟩ := findM_some hfm
    have a1 := spec_AssocStep_ok (nth m.list k) p (hm.each _ (nth_mem hk)) (by omega)
    have hln := stepS_len (nth m.list k) p
    have pa := spec_PacketAlone_ok p (by omega)
    have hbo := (packet_ok.1 hp).1 _ (nth_mem h0)
    have hcb : (nth p.chunks 0).body.length ≤ 60 := by simp only [Chunk.ok, Bool.and_eq_true, decide_eq_true_eq] at hbo; exact hbo.2
    have ig := spec_InitGet_ok (nth p.chunks 0) (by omega)
    have hel := erase_len hk
    have b1 := l32Begin_ok ⟨m.records + 1, m.list.eraseIdx k, m.found⟩ p (by simp only; omega) (by simp; omega) (by simp; omega) hp
    have hres : restartS m.list p k = (decide ((nth m.list k).state = 7) && decide ((nth p.chunks 0).kind = 1) && p.alone && decide (p.tag = 0) && (getHello (nth p.chunks 0)).isSome) := rfl
    simp only [Monitor.own, packet_v, assoc_v, chunk_v, isl] at a1 pa ig b1
    rw [hres] at ht
    have hset := fun y : Assoc => setEl_assoc (y := y) hk
    generalize beginL (m.list.eraseIdx k) p = B at *
    generalize stepS (nth m.list k) p = r at *
    obtain ⟨y, rl⟩ := r
    simp only at a1 hln ht
    simp [idxV, hk, h0, chunk_v, assoc_v]
    cases d1 : decide ((nth m.list k).state = 7)
    all_goals (try (have hh := of_decide_eq_true d1; simp [h0, chunk_v]; cases d2 : decide ((nth p.chunks 0).kind = 1)))
    all_goals (try (have hh := of_decide_eq_true d2; simp; refine goCall_eq pa (by simp) ?_; cases d3 : p.alone))
    all_goals (try (have hh : p.alone = true := d3; simp; cases d4 : decide (p.tag = 0)))
    all_goals (try (have hh := of_decide_eq_true d4; simp [h0, chunk_v]; refine goCall_eq ig ?_ ?_; (· cases getHello (nth p.chunks 0) <;> simp [optV, zHello, hi_v]); cases d5 : getHello (nth p.chunks 0)))
    rotate_right
    · rename_i hx
      rw [if_pos (by simp [d1, d2, d3, d4, d5])] at ht
      subst ht
      have hmk : min k m.list.length = k := by omega
      have her : (m.list.eraseIdx k).map Assoc.v = List.take k (m.list.map Assoc.v) ++ List.drop (k + 1) (m.list.map Assoc.v) := by rw [List.eraseIdx_eq_take_drop_succ]; simp [List.map_take, List.map_drop]
      rw [her] at b1
      have htl : List.take m.list.length (m.list.map Assoc.v) = m.list.map Assoc.v := List.take_of_length_le (by simp)
      simp [optV, hi_v, htl, hmk]
      refine ⟨by omega, ⟨fun z hz => ?_, by unfold roomOk; omega⟩, by omega, by omega, ⟨fun z hz => ?_, by unfold roomOk; omega⟩, ?_⟩
      · obtain ⟨x, _, rfl⟩ := List.mem_map.1 (List.mem_of_mem_take hz); rfl
      · obtain ⟨x, _, rfl⟩ := List.mem_map.1 (List.mem_of_mem_drop hz); rfl
      · refine goCall_gen [(0, some 1200, k + (m.list.length - (k + 1)), 14), (1, some 241, m.found.length, 2)] [] [] [] none b1 (by simp [hmk]) ?_
        simp
        exact Ends.mk [(0, some 1472, T.1.length, 14), (1, some 1473, m.found.length + T.2.length, 2)] [] (by simp)
    all_goals (rw [if_neg (by simp [*])] at ht)
    all_goals subst ht
    all_goals
      simp [optV, hi_v, hk, assoc_v]
      refine goDCall_eq a1 (by simp) (by simp) ?_
      simp [hk, hset]
      refine go_loop (fun i => { env := [(4, .ptr 4 0), (5, .ptr 5 0), (12, isl rl), (13, .int .i64 (i : Nat))], loc := [], box := [(4, List.replicate 3 .undef), (5, [.int .i64 (m.records + 1), .sl (some 0) 14 ((m.list.set k y).map Assoc.v), .sl (some 1) 2 ((m.found ++ (rl.take i).map fun k => (m.records, k)).map fV)])], stat := [(0, some (.own m.list.length 14)), (1, some (.own (m.found.length + i) 2))] }) (fun i => i ≤ rl.length) (fun i => rl.length - i) 0 (by omega) (Weak.of [(0, some 240, m.list.length, 14), (1, some 241, m.found.length, 2)] [(4, 4), (5, 5)] (by simp [isl, List.replicate, assoc_v])) ?_
      intro i hi
      have hmin : min i rl.length = i := by omega
      simp [isl]
      refine goTest_dec (fun hlt => ?_) (fun hge => ?_)
      · have hs := take_nth hlt
        have n3 := l32Note_ok ⟨m.records + 1, m.list.set k y, m.found ++ (rl.take i).map fun k => (m.records, k)⟩ (nth rl i) (by simp; omega) (by simp; omega)
        simp only [Monitor.own] at n3
        simp [hlt, iV]
        refine goCall_gen [(0, some 0, m.list.length, 14), (1, some 1, m.found.length + i, 2)] [] [] [] none n3 (by simp [hmin]) ?_
        simp [hmin]
        refine ⟨by omega, Again.mk (i + 1) hlt (by omega) (Weak.of [(0, some 1904, m.list.length, 14), (1, some 1905, m.found.length + (i + 1), 2)] [(4, 4), (5, 5)] ?_)⟩
        have hs2 : List.take (i + 1) (rl.map (fV ∘ fun k => (m.records, k))) = List.take i (rl.map (fV ∘ fun k => (m.records, k))) ++ [fV (m.records, nth rl i)] := by rw [← List.map_take, hs]; simp [List.map_take]
        simp [isl, hs2, Nat.add_assoc]
      · obtain rfl : i = rl.length := by omega
        simp
        exact Ends.mk [(0, some 0, m.list.length, 14), (1, some 1, m.found.length + rl.length, 2)] [] (by simp [List.take_of_length_le, assoc_v])
end

section
set_option maxRecDepth 200000
set_option maxHeartbeats 8000000
attribute [-simp] List.getD_eq_getElem?_getD

theorem zMonitor_v : zMonitor.v = .agg [.int .i64 0, .sl none 14 [], .sl none 2 []] := rfl

theorem spec_MonitorStep_ok (m : Monitor) (s : List UInt8) (hm : m.bd) (hf : m.found.length ≤ 800000) (hs : s.length ≤ 1000000) : Fn Tryz.prog fn_spec_MonitorStep [m.v, .str s] [] (monS m s).v [] := by
  refine Fn.of_go ln_spec_MonitorStep rfl ?_
  have hrec := hm.recs
  have f1 := spec_MonitorValid_ok m hm
  have hmS : monS m s = if m.ok && decide (m.records < 60) then monStep m s else zMonitor := rfl
  have g1 := fun h => l32Step_ok m s hm hf h hs
  simp only [mon_v, Monitor.own] at f1 g1
  simp [ac_spec_MonitorStep, mon_v]
  refine goCall_eq f1 (by simp) ?_
  cases q1 : m.ok
  · rw [q1, if_neg (by simp)] at hmS
    rw [hmS]
    simp
    exact Ends.mk [] [] (by simp [zMonitor])
  simp
  refine goTest_dec (fun q2 => ?_) (fun q2 => ?_)
  · rw [if_neg (by simp; omega)] at hmS
    rw [hmS]
    simp
    exact Ends.mk [] [] (by simp [zMonitor])
  · rw [if_pos (by simp [q1]; omega)] at hmS
    rw [hmS]
    simp
    refine goCall_eq (g1 (by omega)) (by simp) ?_
    simp
    exact Ends.mk [] [] (by simp)

theorem fold_bd {l : List Tap} (h : capOk l = true) {i : Nat} (hi : i ≤ l.length) : (foldM zMonitor (l.take i)).bd ∧ (foldM zMonitor (l.take i)).found.length ≤ 800000 ∧ (foldM zMonitor (l.take i)).records ≤ 60 := by
  have h1 := run_sm (l.take i)
  have h2 : runS (l.take i) = foldM zMonitor (l.take i) := by unfold runS; rw [if_pos (capOk_take h i)]
  rw [h2] at h1
  exact ⟨h1.bd (by omega), by have := h1.found; omega, h1.recs.2⟩

theorem spec_MonitorRun_ok (l : List Tap) (hl : l.length ≤ 1000000) (ht : ∀ r ∈ l, r.text.length ≤ 1000000) : Fn Tryz.prog fn_spec_MonitorRun [rsl l] [] (runS l).v [] := by
  refine Fn.of_go ln_spec_MonitorRun rfl ?_
  have f1 := spec_CaptureValid_ok l hl
  simp only [rsl] at f1
  simp [ac_spec_MonitorRun, rsl]
  refine go_loop (fun i : Nat => { env := [(0, rsl l), (2, .ptr 2 0), (3, .ptr 3 0), (4, .int .i64 (i : Nat))], loc := [], box := [(2, List.replicate 3 .undef), (3, (foldM zMonitor (l.take i)).cells)], stat := [] }) (fun i => i ≤ l.length ∧ (i = 0 ∨ capOk l = true)) (fun i => l.length - i) 0 ⟨by omega, by simp⟩ (Weak.of [] [(2, 2), (3, 3)] (by simp [rsl, List.replicate, foldM, zMonitor, Monitor.cells, fsl])) ?_
  rintro i ⟨hi, hc⟩
  simp [rsl]
  refine goTest_dec (fun hlt => ?_) (fun hge => ?_)
  · simp [hlt]
    refine goCall_eq f1 (by simp) ?_
    cases q : capOk l
    · have h0 : i = 0 := by rcases hc with h | h; exact h; rw [q] at h; cases h
      subst h0
      have e : runS l = zMonitor := by unfold runS; rw [if_neg (by simp [q])]
      rw [e, zMonitor_v]
      simp [foldM, zMonitor, Monitor.cells, fsl]
      exact Ends.mk [] [] (by simp)
    · obtain ⟨hb, hf, hr⟩ := fold_bd q hi
      have hb0 := hb.recs
      have g1 := l32Step_ok (foldM zMonitor (l.take i)) (nth l i).text hb hf (by omega) (ht _ (nth_mem hlt))
      have hs := take_nth hlt
      have hn : foldM zMonitor (l.take (i + 1)) = monStep (foldM zMonitor (l.take i)) (nth l i).text := by rw [hs, foldM_snoc]
      rw [← hn] at g1
      simp only [mon_v, Monitor.own] at g1
      simp [hlt, rec_v, Monitor.cells, fsl]
      refine goCall_eq g1 (by simp) ?_
      simp
      exact ⟨by omega, Again.mk (i + 1) hlt (by omega) (Weak.of [] [(2, 2), (3, 3)] (by simp [rsl, List.replicate, Monitor.cells, fsl]))⟩
  · obtain rfl : i = l.length := by omega
    have e : runS l = foldM zMonitor l := by
      unfold runS
      split
      · rfl
      · rename_i q
        rcases hc with h | h
        · rw [List.eq_nil_of_length_eq_zero h]; rfl
        · exact absurd h q
    rw [e, mon_v]
    simp [Monitor.cells, fsl]
    exact Ends.mk [] [] (by simp)
end

section
set_option maxRecDepth 200000
set_option maxHeartbeats 8000000
attribute [-simp] List.getD_eq_getElem?_getD

section
variable {st : St} {p : Nat} {src : List UInt8} {a : Int} {d : AD} {rs : List AOp} {k : List It} {Q : AE → St → Prop}
theorem goTalk (hb : lookB st.box p = some [bsl src, .int .i64 a]) (ha : 0 ≤ a ∧ a < 6000000)
    (h : ∀ (t : Talk) (b : Int), t.bd → (a ≤ b ∧ b ≤ a + 100) → go Tryz.prog (.ops rs :: k) Q .normal (Delta.apply { val := t.v, nb := [(p, [.sl none 1 (src.map byteV), .int .i64 b])] } st d)) : goCall Tryz.prog fn_spec_l92Talk [.ptr p 0] d rs k Q st := by
  obtain ⟨_, _, ⟨t, b, hl, ht, hb2⟩, f⟩ := l92Talk_ok src a (by omega)
  refine goCall_gen [] [(1000, p)] [] [] none f (by simp [bsl, hb, talk_v]) ?_
  have := h t b ⟨by omega, fun x hx => by have := ht x hx; omega⟩ hb2
  simpa [bsl, talk_v] using this
end

/-- A monitor that was drawn. -/
inductive MonR (src : List UInt8) (a k : Int) : V → List (List V) → Prop
  | mk (m : Monitor) (b : Int) (h : m.sm 2000) (hb : a ≤ b ∧ b ≤ a + k) : MonR src a k m.v [[bsl src, .int .i64 b]]

theorem Monitor.sm.le {m : Monitor} {i j : Nat} (h : m.sm i) (hij : i ≤ j) : m.sm j := ⟨h.recs, h.len, h.each, by have := h.found; omega⟩

theorem l92Monitor_ok (src : List UInt8) (a : Int) (h : 0 ≤ a ∧ a < 5000000) : ∃ R bo, MonR src a 600 R bo ∧ Fn Tryz.prog fn_spec_l92Monitor [.ptr 1000 0] [[bsl src, .int .i64 a]] R bo := by
  refine Fx.of_go ln_spec_l92Monitor rfl ?_
  simp [ac_spec_l92Monitor, bsl]
  refine goTalk rfl (by omega) fun t b ht hb => ?_
  have f1 := spec_TalkRecords_ok t 0 ht (by omega)
  obtain ⟨hl, htx⟩ := records_small t 0
  generalize recordsT t 0 = L at *
  simp only [talk_v, rsl] at f1
  simp [talk_v]
  refine goCall_eq f1 (by simp) ?_
  simp
  refine ⟨by omega, goPick rfl (by omega) (by omega) fun n hn => ?_⟩
  simp
  refine go_loop (fun x : Nat × Monitor × Int => { env := [(0, .ptr 1000 0), (2, .ptr 2 0), (3, rsl L), (4, .ptr 4 0), (5, .int .i64 (n : Nat)), (6, .int .i64 (x.1 : Nat))], loc := [], box := [(1000, [bsl src, .int .i64 x.2.2]), (2, List.replicate 3 .undef), (4, x.2.1.cells)], stat := [] })
    (fun x => x.1 ≤ n ∧ x.2.1.sm (24 * x.1) ∧ b + 1 ≤ x.2.2 ∧ x.2.2 ≤ b + 1 + 7 * x.1) (fun x => n - x.1) (0, zMonitor, b + 1) ⟨by simp, zMonitor_sm _, by simp, by simp⟩ (Weak.of [] [(1000, 1000), (2, 2), (4, 4)] (by simp [bsl, rsl, List.replicate, zMonitor, Monitor.cells, fsl])) ?_
  rintro ⟨i, m, e⟩ ⟨hi, hm, he1, he2⟩
  simp only at hi hm he1 he2
  simp [bsl, rsl]
  refine goTest_dec (fun hin => ?_) (fun hin => ?_)
  · have hiL : i < L.length := by omega
    have hlen := htx _ (nth_mem hiL)
    simp [hin]
    refine goPick rfl (by omega) (by omega) fun r1 h1 => ?_
    simp
    have hstep : ∀ (m : Monitor) (j : Nat) (s : List UInt8), m.sm j → j ≤ 1500 → s.length ≤ 121 → Fn Tryz.prog fn_spec_MonitorStep [m.v, .str s] [] (monS m s).v [] := fun m j s hm hj hs => spec_MonitorStep_ok m s (hm.bd (by omega)) (by have := hm.found; omega) (by omega)
    have s1 := hstep m (24 * i) (nth L i).text hm (by omega) (by omega)
    have hm1 := monS_sm hm (nth L i).text
    generalize monS m (nth L i).text = m1 at *
    simp only [mon_v] at hstep s1
    refine goTest_dec (fun hr => ?_) (fun hr => ?_)
    · simp [hiL, rec_v, Monitor.cells, fsl]
      refine goCall_eq s1 (by simp) ?_
      simp
      have hmm : m1.sm (24 * i + 12) := hm1
      clear hm1 s1 hm
      generalize m1 = mm at *
      refine goPick rfl (by omega) (by omega) fun r2 h2 => ?_
      simp
      refine goTest_dec (fun hr2 => ?_) (fun hr2 => ?_)
      · simp [hr2]
        obtain ⟨r3, h3, f3⟩ := pickI src (e + 1 + 1) L.length (by omega) (by omega)
        have h3L : r3 < L.length := by omega
        have htx3 := htx _ (nth_mem h3L)
        refine goDCall_gen [] [(1000, 1000)] [] [] none f3 (by simp [bsl]) (by simp [bsl]) ?_
        simp [bsl, h3L, rec_v]
        obtain ⟨_, _, ⟨s, b4, hs4, hb4⟩, f4⟩ := spoil_ok src (e + 1 + 1 + 1) (nth L r3).text (by omega) (by omega)
        refine goDCall_gen [] [(1000, 1000)] [] [] none f4 (by simp [bsl]) (by simp [bsl]) ?_
        simp [bsl]
        have s2 := hstep mm (24 * i + 12) s hmm (by omega) (by omega)
        have hm2 := monS_sm hmm s
        generalize monS mm s = m2 at *
        refine goCall_eq s2 (by simp) ?_
        simp
        exact ⟨by omega, Again.mk (i + 1, m2, b4) ⟨by simp; omega, hm2.le (by simp; omega), by simp; omega, by simp; omega⟩ (by simp; omega) (Weak.of [] [(1000, 1000), (2, 2), (4, 4)] (by simp [bsl, rsl, Monitor.cells, fsl]))⟩
      · simp [hr2]
        exact ⟨by omega, Again.mk (i + 1, mm, e + 1 + 1) ⟨by simp; omega, hmm.le (by simp; omega), by simp; omega, by simp; omega⟩ (by simp; omega) (Weak.of [] [(1000, 1000), (2, 2), (4, 4)] (by simp [bsl, rsl, Monitor.cells, fsl]))⟩
    · have hmm : m.sm (24 * i + 12) := hm.le (by omega)
      clear hm1 s1 hm
      generalize m = mm at *
      simp [Monitor.cells, fsl]
      refine goPick rfl (by omega) (by omega) fun r2 h2 => ?_
      simp
      refine goTest_dec (fun hr2 => ?_) (fun hr2 => ?_)
      · simp [hr2]
        obtain ⟨r3, h3, f3⟩ := pickI src (e + 1 + 1) L.length (by omega) (by omega)
        have h3L : r3 < L.length := by omega
        have htx3 := htx _ (nth_mem h3L)
        refine goDCall_gen [] [(1000, 1000)] [] [] none f3 (by simp [bsl]) (by simp [bsl]) ?_
        simp [bsl, h3L, rec_v]
        obtain ⟨_, _, ⟨s, b4, hs4, hb4⟩, f4⟩ := spoil_ok src (e + 1 + 1 + 1) (nth L r3).text (by omega) (by omega)
        refine goDCall_gen [] [(1000, 1000)] [] [] none f4 (by simp [bsl]) (by simp [bsl]) ?_
        simp [bsl]
        have s2 := hstep mm (24 * i + 12) s hmm (by omega) (by omega)
        have hm2 := monS_sm hmm s
        generalize monS mm s = m2 at *
        refine goCall_eq s2 (by simp) ?_
        simp
        exact ⟨by omega, Again.mk (i + 1, m2, b4) ⟨by simp; omega, hm2.le (by simp; omega), by simp; omega, by simp; omega⟩ (by simp; omega) (Weak.of [] [(1000, 1000), (2, 2), (4, 4)] (by simp [bsl, rsl, Monitor.cells, fsl]))⟩
      · simp [hr2]
        exact ⟨by omega, Again.mk (i + 1, mm, e + 1 + 1) ⟨by simp; omega, hmm.le (by simp; omega), by simp; omega, by simp; omega⟩ (by simp; omega) (Weak.of [] [(1000, 1000), (2, 2), (4, 4)] (by simp [bsl, rsl, Monitor.cells, fsl]))⟩
  · simp [hin, Monitor.cells, fsl]
    exact ⟨_, _, .mk m e (hm.le (by omega)) (by omega), Ends.mk [] [(1000, 1000)] (by simp [bsl, mon_v, Monitor.cells, fsl])⟩

section
variable {st : St} {p : Nat} {src : List UInt8} {a : Int} {d : AD} {rs : List AOp} {k : List It} {Q : AE → St → Prop}
theorem goMonitor (hb : lookB st.box p = some [bsl src, .int .i64 a]) (ha : 0 ≤ a ∧ a < 5000000)
    (h : ∀ (m : Monitor) (b : Int), m.sm 2000 → (a ≤ b ∧ b ≤ a + 600) → go Tryz.prog (.ops rs :: k) Q .normal (Delta.apply { val := m.v, nb := [(p, [.sl none 1 (src.map byteV), .int .i64 b])] } st d)) : goCall Tryz.prog fn_spec_l92Monitor [.ptr p 0] d rs k Q st := by
  obtain ⟨_, _, ⟨m, b, hm, hb2⟩, f⟩ := l92Monitor_ok src a (by omega)
  refine goCall_gen [] [(1000, p)] [] [] none f (by simp [bsl, hb, mon_v]) ?_
  have := h m b hm hb2
  simpa [bsl, mon_v] using this
end

/-- Sides and associations that were drawn. -/
structure Side.dr (s : Side) : Prop where
  bd : s.bd
  str : s.streams ≤ 1000
structure Assoc.dr (x : Assoc) : Prop where
  a : x.a.dr
  b : x.b.dr
theorem Assoc.dr.bd {x : Assoc} (h : x.dr) : x.bd := ⟨h.a.bd, h.b.bd⟩
theorem Side.ok_dr {s : Side} (h : s.ok = true) : s.dr := by
  refine ⟨Side.ok_bd h, ?_⟩
  by_cases q : s.tag = 0
  · rw [((side_zero q).1 h).1]; omega
  · have := ((side_iff q).1 h).2.2.1; omega
theorem Assoc.ok_dr {x : Assoc} (h : x.ok = true) : x.dr := ⟨Side.ok_dr (Assoc.ok_side h false).1, Side.ok_dr (Assoc.ok_side h true).1⟩
theorem newA_dr (s d : Int) : (newA s d).dr := ⟨⟨(newA_bd s d).1, by simp [newA, zSide]⟩, ⟨(newA_bd s d).2, by simp [newA, zSide]⟩⟩

/-- An association that was drawn. -/
inductive AsR (src : List UInt8) (a k : Int) : V → List (List V) → Prop
  | mk (x : Assoc) (b : Int) (h : x.dr) (hb : a ≤ b ∧ b ≤ a + k) : AsR src a k x.v [[bsl src, .int .i64 b]]

theorem l92Assoc_ok (src : List UInt8) (a : Int) (h : 0 ≤ a ∧ a < 4900000) : ∃ R bo, AsR src a 700 R bo ∧ Fn Tryz.prog fn_spec_l92Assoc [.ptr 1000 0] [[bsl src, .int .i64 a]] R bo := by
  refine Fx.of_go ln_spec_l92Assoc rfl ?_
  simp [ac_spec_l92Assoc, bsl]
  refine goMonitor rfl (by omega) fun m b hm hb => ?_
  simp [mon_v]
  refine goTest_dec (fun hl => ?_) (fun hl => ?_)
  · simp [hl]
    refine goPick rfl (by omega) (by omega) fun r1 h1 => ?_
    simp
    refine ⟨by omega, goPick rfl (by omega) (by omega) fun r2 h2 => ?_⟩
    simp
    exact ⟨by omega, _, _, .mk (newA (1 + (r1 : Int)) (6 + (r2 : Int))) (b + 1 + 1) (newA_dr _ _) (by omega), Ends.mk [] [(1000, 1000)] (by simp [bsl, newA_v])⟩
  · have h0 : 0 < m.list.length := by
      rcases Nat.eq_zero_or_pos m.list.length with q | q
      · exact absurd (List.eq_nil_of_length_eq_zero q) hl
      · exact q
    simp [hl, h0, assoc_v]
    exact ⟨_, _, .mk (nth m.list 0) b (Assoc.ok_dr (hm.each _ (nth_mem h0))) (by omega), Ends.mk [] [(1000, 1000)] (by simp [bsl, assoc_v])⟩
end

end Go.Proofs.YtnhhcfbigjpfeaaGreatDoor
