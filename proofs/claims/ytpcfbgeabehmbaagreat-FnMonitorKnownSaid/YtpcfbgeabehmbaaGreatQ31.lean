/-
  Steps of monitors, by the program.
  Monitors that were drawn, and records for them.
  What the laws of monitors have in common.
-/
import Derived.Test.YtpcfbgeabehmbaaGreatQ30
namespace Go.Proofs.YtpcfbgeabehmbaaGreat
set_option linter.all false

section
set_option maxRecDepth 200000
set_option maxHeartbeats 16000000
attribute [-simp] List.getD_eq_getElem?_getD

theorem restart_iff {l : List Assoc} {p : Packet} (hp : p.ok = true) (i : Nat) : restartS l p i = (decide ((nth l i).state = 7) && (decide (p.tag = 0) && (decide (p.chunks.length = 1) && (decide ((nth p.chunks 0).kind = 1) && (getHello (nth p.chunks 0)).isSome)))) := by
  have ha : (nth p.chunks 0).kind = 1 → p.alone = decide (p.chunks.length = 1) := by
    intro hk
    have h1 := (packet_ok.1 hp).2.2.2.2.2.1
    have hmem : nth p.chunks 0 ∈ p.chunks := nth_mem (by omega)
    by_cases q : p.chunks.length = 1
    · obtain ⟨c, hc⟩ := List.length_eq_one_iff.1 q
      rw [alone_one hc hp]; simp [q]
    · simp only [q, decide_false]
      cases h : p.alone with
      | false => rfl
      | true =>
        simp only [Packet.alone, Bool.and_eq_true, Bool.or_eq_true, decide_eq_true_eq, List.all_eq_true] at h
        rcases h.1 with h | h
        · omega
        · have := h _ hmem
          simp [aloneK, hk] at this
  unfold restartS
  by_cases hk : (nth p.chunks 0).kind = 1
  · rw [ha hk]
    simp only [Bool.and_assoc, Bool.and_left_comm, Bool.and_comm]
  · simp [hk]

theorem find_at {m : Monitor} (h : MonOk m) {a b : Int} {k : Nat} (hk : k < m.list.length) (hm : meet (nth m.list k).ports (a, b) = true) : findM m.list a b = some k := by
  cases hf : findM m.list a b with
  | none => have := findM_none hf _ (nth_mem hk); rw [hm] at this; cases this
  | some j =>
    obtain ⟨hj, hmj⟩ := findM_some hf
    rw [apart_eq h.apart hk hj (meet_trans hm hmj)]

theorem impl_MonitorStep_ok (m : Monitor) (s : List UInt8) (hm : m.bd) (hf : m.found.length ≤ 800000) (hs : s.length ≤ 1000000) : Fn Tryz.prog fn_impl_MonitorStep [m.v, .str s] [] (monS m s).v [] := by
  refine Fn.of_go ln_impl_MonitorStep rfl ?_
  have hrec := hm.recs
  have v1 := impl_MonitorValid_ok m hm
  have hmS : monS m s = if m.ok && decide (m.records < 60) then monStep m s else zMonitor := rfl
  have hRv : (monStep m s).v = .agg [.int .i64 (m.records + 1), .sl none 14 ((textL m.list s).1.map Assoc.v), .sl none 2 ((m.found ++ (textL m.list s).2.map fun r => (m.records, r)).map fV)] := rfl
  have g1 := impl_PacketGet_ok s hs
  have hcode := getP_code s
  have hgp := getP_ok (t := s)
  have ht : textL m.list s = if (getP s).2 ≠ 0 then (m.list, [100 + (getP s).2]) else packL m.list (getP s).1 := rfl
  have htl := textL_told m.list s
  generalize hRR : (monS m s).v = RR
  generalize getP s = gp at *
  obtain ⟨p, code⟩ := gp
  simp only at hcode hgp ht
  simp only [mon_v] at v1
  simp only [resP, packet_v] at g1
  simp [ac_impl_MonitorStep, mon_v]
  refine goCall_eq v1 (by simp) ?_
  cases q1 : m.ok
  · rw [← hRR, hmS, q1, if_neg (by simp)]
    simp
    exact Ends.mk [] [] (by simp [zMonitor, mon_v])
  simp
  refine goTest_dec (fun q2 => ?_) (fun q2 => ?_)
  · rw [← hRR, hmS, if_neg (by simp; omega)]
    simp
    exact Ends.mk [] [] (by simp [zMonitor, mon_v])
  rw [hmS, if_pos (by simp [q1]; omega), hRv] at hRR
  clear hmS hRv v1
  generalize textL m.list s = T at *
  have hok := mon_iff.1 q1
  have hl := hok.len
  simp
  refine ⟨by omega, ⟨fun z a b _ h => by subst h; rfl, by unfold roomOk; omega⟩, ?_⟩
  refine go_loop (fun i : Nat => { env := [(1, .str s), (2, .ptr 2 0), (4, .ptr 4 0), (5, .ptr 5 0), (37, .sl none 14 (m.list.map Assoc.v)), (38, .int .i64 (m.list.length : Nat)), (39, .int .i64 (i : Nat))], loc := [], box := [(2, m.cells), (4, List.replicate 3 .undef), (5, [.int .i64 (m.records + 1), .sl (some 0) 14 ((m.list.take i).map Assoc.v), .sl (some 1) 2 (m.found.map fV)])], stat := [(0, some (.own i 14)), (1, some (.own m.found.length 2))] }) (fun i => i ≤ m.list.length) (fun i => m.list.length - i) 0 (by omega) (Weak.of [(0, none, 0, 14), (1, some 496, m.found.length, 2)] [(2, 2), (4, 4), (5, 5)] (by simp [Monitor.cells, fsl, List.replicate])) ?_
  intro i hi
  have hlen : (m.list.take i).length = i := by simp; omega
  simp [Monitor.cells, fsl]
  refine goTest_dec (fun hlt => ?_) (fun hge => ?_)
  · have hxb := hm.each _ (nth_mem hlt)
    have f1 := copyAssoc_ok (nth m.list i) (by have := hxb.1.2; omega) (by have := hxb.2.2; omega)
    simp only [assoc_v, own_c] at f1
    have hs := take_nth hlt
    simp [hlt, assoc_v]
    refine goDCall_eq f1 (by simp) (by simp) ?_
    simp
    refine ⟨by unfold roomOk; omega, by omega, Again.mk (i + 1) hlt (by omega) (Weak.of [(0, some 0, i + 1, 14), (1, some 1, m.found.length, 2)] [(2, 2), (4, 4), (5, 5)] ?_)⟩
    have hs2 : List.take (i + 1) (m.list.map Assoc.v) = List.take i (m.list.map Assoc.v) ++ [(nth m.list i).v] := by rw [← List.map_take, hs]; simp [List.map_take]
    rw [assoc_v] at hs2
    simp [Monitor.cells, fsl, hs2]
  obtain rfl : i = m.list.length := by omega
  have etk : List.take m.list.length (List.map Assoc.v m.list) = List.map Assoc.v m.list := List.take_of_length_le (by simp)
  simp [etk]
  refine goCall_eq g1 (by simp) ?_
  simp
  cases q3 : decide (code = 0)
  · have q3 := of_decide_eq_false q3
    rw [if_pos q3] at ht
    subst ht
    have e : 101 + code - 1 = 100 + code := by omega
    simp [e]
    refine ⟨by omega, by omega, by unfold roomOk; omega, ?_⟩
    rw [← hRR]
    exact Ends.mk [] [] (by simp [fV])
  have q3 := of_decide_eq_true q3
  rw [if_neg (by simpa using q3)] at ht
  have hp := hgp q3
  have hpl := (packet_ok.1 hp).2.2.2.2.2
  have h0 : 0 < p.chunks.length := by omega
  simp
  refine go_loop (fun x : Nat × Int => { env := [(2, .ptr 2 0), (4, .ptr 4 0), (5, .ptr 5 0), (8, .ptr 8 0), (10, .int .i64 x.2), (71, .sl (some 0) 14 (m.list.map Assoc.v)), (72, .int .i64 (m.list.length : Nat)), (73, .int .i64 (x.1 : Nat))], loc := [], box := [(2, m.cells), (4, List.replicate 3 .undef), (5, [.int .i64 (m.records + 1), .sl (some 0) 14 (m.list.map Assoc.v), .sl (some 1) 2 (m.found.map fV)]), (8, p.cells)], stat := [(0, some (.own m.list.length 14)), (1, some (.own m.found.length 2))] }) (fun x => x.1 ≤ m.list.length ∧ ((x.2 = -1 ∧ ∀ j, j < x.1 → meet (nth m.list j).ports (p.src, p.dst) = false) ∨ ∃ k : Nat, x.2 = k ∧ k < x.1 ∧ meet (nth m.list k).ports (p.src, p.dst) = true)) (fun x => m.list.length - x.1) (0, -1) ⟨by simp, Or.inl ⟨rfl, fun j hj => by simp at hj⟩⟩ (Weak.of [(0, some 0, m.list.length, 14), (1, some 1, m.found.length, 2)] [(2, 2), (4, 4), (5, 5), (8, 8)] (by simp [Monitor.cells, fsl, List.replicate, Packet.cells, csl])) ?_
  rintro ⟨i, at'⟩ ⟨hi, hat⟩
  simp only at hi hat
  simp [Monitor.cells, fsl, Packet.cells, csl]
  refine goTest_dec (fun hlt => ?_) (fun hge => ?_)
  · have f2 := samePorts_ok (nth m.list i) p.src p.dst
    simp only [assoc_v] at f2
    simp [hlt, assoc_v]
    refine goCall_eq f2 (by simp) ?_
    simp
    refine goTest_bool (fun q => ?_) (fun q => ?_)
    · simp
      exact ⟨by omega, Again.mk (i + 1, (i : Int)) ⟨hlt, Or.inr ⟨i, rfl, by simp, q⟩⟩ (by simp; omega) (Weak.of [(0, some 0, m.list.length, 14), (1, some 1, m.found.length, 2)] [(2, 2), (4, 4), (5, 5), (8, 8)] (by simp [Monitor.cells, fsl, List.replicate, Packet.cells, csl]))⟩
    · simp
      refine ⟨by omega, Again.mk (i + 1, at') ⟨hlt, ?_⟩ (by simp; omega) (Weak.of [(0, some 0, m.list.length, 14), (1, some 1, m.found.length, 2)] [(2, 2), (4, 4), (5, 5), (8, 8)] (by simp [Monitor.cells, fsl, List.replicate, Packet.cells, csl]))⟩
      rcases hat with ⟨h1, h2⟩ | ⟨k, h1, h2, h3⟩
      · refine Or.inl ⟨h1, fun j hj => ?_⟩
        rcases Nat.lt_succ_iff_lt_or_eq.1 hj with h | rfl
        · exact h2 j h
        · exact q
      · exact Or.inr ⟨k, h1, by simp; omega, h3⟩
  obtain rfl : i = m.list.length := by omega
  have hpk : packL m.list p = match findM m.list p.src p.dst with
    | none => beginL m.list p
    | some i => if restartS m.list p i then beginL (m.list.eraseIdx i) p else (m.list.set i (stepS (nth m.list i) p).1, (stepS (nth m.list i) p).2) := rfl
  have f1 := impl_AssocStep_own (newA p.src p.dst) p (newA_bd _ _) (by omega)
  rw [newA_v] at f1
  rcases hat with ⟨h1, h2⟩ | ⟨k, h1, h2, h3⟩
  · subst h1
    rw [findM_miss h2] at hpk
    have hbl : beginL m.list p = (if (nth p.chunks 0).kind ≠ 1 then (m.list, [104]) else
      if (stepS (newA p.src p.dst) p).2 ≠ [] then (m.list, (stepS (newA p.src p.dst) p).2) else
      if 3 ≤ m.list.length then (m.list, [105]) else (m.list ++ [(stepS (newA p.src p.dst) p).1], [])) := rfl
    simp only at hpk
    rw [hpk, hbl] at ht
    clear hpk hbl h2
    generalize stepS (newA p.src p.dst) p = r at *
    obtain ⟨y, rl⟩ := r
    simp only [packet_v, isl, assoc_v] at f1
    simp only at ht
    simp [h0, chunk_v]
    cases q4 : decide ((nth p.chunks 0).kind = 1)
    · rw [if_pos (of_decide_eq_false q4)] at ht
      simp
      refine ⟨by unfold roomOk; omega, ?_⟩
      obtain ⟨L, hL⟩ : ∃ L : List Assoc, L = m.list := ⟨_, rfl⟩
      obtain ⟨R, hR⟩ : ∃ R : List Int, R = [104] := ⟨_, rfl⟩
      have hT : T = (L, R) := by rw [hL, hR]; exact ht
      have hrl : R.length ≤ 12 := by rw [hT] at htl; exact htl
      refine go_loop (fun i : Nat => { env := [(2, .ptr 2 0), (4, .ptr 4 0), (5, .ptr 5 0), (190, .sl (some 2) 1 (R.map iV)), (191, .int .i64 (R.length : Nat)), (192, .int .i64 (i : Nat))], loc := [], box := [(2, m.cells), (4, List.replicate 3 .undef), (5, [.int .i64 (m.records + 1), .sl (some 0) 14 (L.map Assoc.v), .sl (some 1) 2 ((m.found ++ (R.take i).map fun k => (m.records, k)).map fV)])], stat := [(0, some (.own L.length 14)), (1, some (.own (m.found.length + i) 2)), (2, some (.own R.length 1))] }) (fun i => i ≤ R.length) (fun i => R.length - i) 0 (by omega) (Weak.of [(0, some 0, m.list.length, 14), (1, some 1, m.found.length, 2), (2, some 2176, 1, 1)] [(2, 2), (4, 4), (5, 5)] (by simp [Monitor.cells, fsl, List.replicate, hL, hR, assoc_v, iV])) ?_
      clear hL hR ht
      intro i hi
      have hmin : min i R.length = i := by omega
      simp [Monitor.cells, fsl]
      refine goTest_dec (fun hlt => ?_) (fun hge => ?_)
      · have hs2 : List.take (i + 1) (R.map (fV ∘ fun k => (m.records, k))) = List.take i (R.map (fV ∘ fun k => (m.records, k))) ++ [fV (m.records, nth R i)] := by rw [← List.map_take, take_nth hlt]; simp [List.map_take]
        simp [hlt, iV, hmin]
        refine ⟨by unfold roomOk; omega, by omega, Again.mk (i + 1) hlt (by omega) (Weak.of [(0, some 0, L.length, 14), (1, some 1, m.found.length + (i + 1), 2), (2, some 2, R.length, 1)] [(2, 2), (4, 4), (5, 5)] ?_)⟩
        simp [Monitor.cells, fsl, List.replicate, hs2, Nat.add_assoc, fV]
      · obtain rfl : i = R.length := by omega
        rw [← hRR, hT]
        simp
        exact Ends.mk [] [] (by simp [List.take_of_length_le])
    · rw [if_neg (by simpa using of_decide_eq_true q4)] at ht
      simp
      refine goCall_gen [] [] [] [] none f1 (by simp) ?_
      simp
      refine goTest_dec (fun q5 => ?_) (fun q5 => ?_)
      · have e5 : rl = [] := by cases rl with | nil => rfl | cons a l => simp at q5
        subst e5
        rw [if_neg (by simp)] at ht
        simp
        refine goTest_dec (fun q6 => ?_) (fun q6 => ?_)
        · rw [if_pos q6] at ht
          simp
          refine ⟨by unfold roomOk; omega, ?_⟩
          obtain ⟨L, hL⟩ : ∃ L : List Assoc, L = m.list := ⟨_, rfl⟩
          obtain ⟨R, hR⟩ : ∃ R : List Int, R = [105] := ⟨_, rfl⟩
          have hT : T = (L, R) := by rw [hL, hR]; exact ht
          have hrl : R.length ≤ 12 := by rw [hT] at htl; exact htl
          refine go_loop (fun i : Nat => { env := [(2, .ptr 2 0), (4, .ptr 4 0), (5, .ptr 5 0), (190, .sl (some 2) 1 (R.map iV)), (191, .int .i64 (R.length : Nat)), (192, .int .i64 (i : Nat))], loc := [], box := [(2, m.cells), (4, List.replicate 3 .undef), (5, [.int .i64 (m.records + 1), .sl (some 0) 14 (L.map Assoc.v), .sl (some 1) 2 ((m.found ++ (R.take i).map fun k => (m.records, k)).map fV)])], stat := [(0, some (.own L.length 14)), (1, some (.own (m.found.length + i) 2)), (2, some (.own R.length 1))] }) (fun i => i ≤ R.length) (fun i => R.length - i) 0 (by omega) (Weak.of [(0, some 0, m.list.length, 14), (1, some 1, m.found.length, 2), (2, some 2304, 1, 1)] [(2, 2), (4, 4), (5, 5)] (by simp [Monitor.cells, fsl, List.replicate, hL, hR, assoc_v, iV])) ?_
          clear hL hR ht
          intro i hi
          have hmin : min i R.length = i := by omega
          simp [Monitor.cells, fsl]
          refine goTest_dec (fun hlt => ?_) (fun hge => ?_)
          · have hs2 : List.take (i + 1) (R.map (fV ∘ fun k => (m.records, k))) = List.take i (R.map (fV ∘ fun k => (m.records, k))) ++ [fV (m.records, nth R i)] := by rw [← List.map_take, take_nth hlt]; simp [List.map_take]
            simp [hlt, iV, hmin]
            refine ⟨by unfold roomOk; omega, by omega, Again.mk (i + 1) hlt (by omega) (Weak.of [(0, some 0, L.length, 14), (1, some 1, m.found.length + (i + 1), 2), (2, some 2, R.length, 1)] [(2, 2), (4, 4), (5, 5)] ?_)⟩
            simp [Monitor.cells, fsl, List.replicate, hs2, Nat.add_assoc, fV]
          · obtain rfl : i = R.length := by omega
            rw [← hRR, hT]
            simp
            exact Ends.mk [] [] (by simp [List.take_of_length_le])
        · rw [if_neg q6] at ht
          simp
          refine ⟨by unfold roomOk; omega, ?_⟩
          obtain ⟨L, hL⟩ : ∃ L : List Assoc, L = m.list ++ [y] := ⟨_, rfl⟩
          obtain ⟨R, hR⟩ : ∃ R : List Int, R = [] := ⟨_, rfl⟩
          have hT : T = (L, R) := by rw [hL, hR]; exact ht
          have hrl : R.length ≤ 12 := by rw [hT] at htl; exact htl
          refine go_loop (fun i : Nat => { env := [(2, .ptr 2 0), (4, .ptr 4 0), (5, .ptr 5 0), (190, .sl (some 2) 1 (R.map iV)), (191, .int .i64 (R.length : Nat)), (192, .int .i64 (i : Nat))], loc := [], box := [(2, m.cells), (4, List.replicate 3 .undef), (5, [.int .i64 (m.records + 1), .sl (some 0) 14 (L.map Assoc.v), .sl (some 1) 2 ((m.found ++ (R.take i).map fun k => (m.records, k)).map fV)])], stat := [(0, some (.own L.length 14)), (1, some (.own (m.found.length + i) 2)), (2, some (.own R.length 1))] }) (fun i => i ≤ R.length) (fun i => R.length - i) 0 (by omega) (Weak.of [(0, some 0, m.list.length + 1, 14), (1, some 1, m.found.length, 2), (2, some 2304, 0, 1)] [(2, 2), (4, 4), (5, 5)] (by simp [Monitor.cells, fsl, List.replicate, hL, hR, assoc_v, iV])) ?_
          clear hL hR ht
          intro i hi
          have hmin : min i R.length = i := by omega
          simp [Monitor.cells, fsl]
          refine goTest_dec (fun hlt => ?_) (fun hge => ?_)
          · have hs2 : List.take (i + 1) (R.map (fV ∘ fun k => (m.records, k))) = List.take i (R.map (fV ∘ fun k => (m.records, k))) ++ [fV (m.records, nth R i)] := by rw [← List.map_take, take_nth hlt]; simp [List.map_take]
            simp [hlt, iV, hmin]
            refine ⟨by unfold roomOk; omega, by omega, Again.mk (i + 1) hlt (by omega) (Weak.of [(0, some 0, L.length, 14), (1, some 1, m.found.length + (i + 1), 2), (2, some 2, R.length, 1)] [(2, 2), (4, 4), (5, 5)] ?_)⟩
            simp [Monitor.cells, fsl, List.replicate, hs2, Nat.add_assoc, fV]
          · obtain rfl : i = R.length := by omega
            rw [← hRR, hT]
            simp
            exact Ends.mk [] [] (by simp [List.take_of_length_le])
      · have e5 : rl ≠ [] := by intro e; subst e; simp at q5
        rw [if_pos e5] at ht
        simp
        obtain ⟨L, hL⟩ : ∃ L : List Assoc, L = m.list := ⟨_, rfl⟩
        obtain ⟨R, hR⟩ : ∃ R : List Int, R = rl := ⟨_, rfl⟩
        have hT : T = (L, R) := by rw [hL, hR]; exact ht
        have hrl : R.length ≤ 12 := by rw [hT] at htl; exact htl
        refine go_loop (fun i : Nat => { env := [(2, .ptr 2 0), (4, .ptr 4 0), (5, .ptr 5 0), (190, .sl (some 2) 1 (R.map iV)), (191, .int .i64 (R.length : Nat)), (192, .int .i64 (i : Nat))], loc := [], box := [(2, m.cells), (4, List.replicate 3 .undef), (5, [.int .i64 (m.records + 1), .sl (some 0) 14 (L.map Assoc.v), .sl (some 1) 2 ((m.found ++ (R.take i).map fun k => (m.records, k)).map fV)])], stat := [(0, some (.own L.length 14)), (1, some (.own (m.found.length + i) 2)), (2, some (.own R.length 1))] }) (fun i => i ≤ R.length) (fun i => R.length - i) 0 (by omega) (Weak.of [(0, some 0, m.list.length, 14), (1, some 1, m.found.length, 2), (2, some 2304, rl.length, 1)] [(2, 2), (4, 4), (5, 5)] (by simp [Monitor.cells, fsl, List.replicate, hL, hR, assoc_v, iV])) ?_
        clear hL hR ht
        intro i hi
        have hmin : min i R.length = i := by omega
        simp [Monitor.cells, fsl]
        refine goTest_dec (fun hlt => ?_) (fun hge => ?_)
        · have hs2 : List.take (i + 1) (R.map (fV ∘ fun k => (m.records, k))) = List.take i (R.map (fV ∘ fun k => (m.records, k))) ++ [fV (m.records, nth R i)] := by rw [← List.map_take, take_nth hlt]; simp [List.map_take]
          simp [hlt, iV, hmin]
          refine ⟨by unfold roomOk; omega, by omega, Again.mk (i + 1) hlt (by omega) (Weak.of [(0, some 0, L.length, 14), (1, some 1, m.found.length + (i + 1), 2), (2, some 2, R.length, 1)] [(2, 2), (4, 4), (5, 5)] ?_)⟩
          simp [Monitor.cells, fsl, List.replicate, hs2, Nat.add_assoc, fV]
        · obtain rfl : i = R.length := by omega
          rw [← hRR, hT]
          simp
          exact Ends.mk [] [] (by simp [List.take_of_length_le])
  · subst h1
    have hfm := find_at hok h2 h3
    have hres := restart_iff (l := m.list) hp k
    have hrb := restart_begin (l := m.list) (i := k) hp
    have hpr := pack_restart (l := m.list) (i := k) hp hl hfm
    rw [hfm] at hpk
    simp only at hpk
    have hpk2 : restartS m.list p k = false → T = (m.list.set k (stepS (nth m.list k) p).1, (stepS (nth m.list k) p).2) := by
      intro h
      rw [ht, hpk, if_neg (by simp [h])]
    have hpk1 : restartS m.list p k = true → T = (m.list.eraseIdx k ++ [(stepS (newA p.src p.dst) p).1], []) := by
      intro h
      rw [ht, hpr h]
    clear hpk hpr ht h3
    have a1 := impl_AssocStep_own (nth m.list k) p (hm.each _ (nth_mem h2)) (by omega)
    have hln := stepS_len (nth m.list k) p
    have hbo := (packet_ok.1 hp).1 _ (nth_mem h0)
    have hcb : (nth p.chunks 0).body.length ≤ 60 := by simp only [Chunk.ok, Bool.and_eq_true, decide_eq_true_eq] at hbo; exact hbo.2
    have ig := impl_InitGet_ok (nth p.chunks 0) (by omega)
    have hel := erase_len h2
    simp only [packet_v, assoc_v, chunk_v, isl] at a1 ig f1
    have hset := fun y : Assoc => setEl_assoc (y := y) h2
    generalize stepS (nth m.list k) p = r at *
    obtain ⟨y, rl⟩ := r
    generalize stepS (newA p.src p.dst) p = r0 at *
    obtain ⟨y0, rl0⟩ := r0
    simp only at a1 hln f1 hrb hpk1 hpk2
    simp [h2, h0, chunk_v, assoc_v]
    cases d1 : decide ((nth m.list k).state = 7)
    all_goals (try (have hh := of_decide_eq_true d1; simp; cases d2 : decide (p.tag = 0)))
    all_goals (try (have hh := of_decide_eq_true d2; simp; cases d3 : decide (p.chunks.length = 1)))
    all_goals (try (have hh := of_decide_eq_true d3; simp [h0, chunk_v]; cases d4 : decide ((nth p.chunks 0).kind = 1)))
    all_goals (try (have hh := of_decide_eq_true d4; simp [h0, chunk_v]; refine goCall_eq ig ?_ ?_; (· cases getHello (nth p.chunks 0) <;> simp [optV, zHello, hi_v]); cases d5 : getHello (nth p.chunks 0)))
    rotate_right
    · rename_i hx
      have hrs : restartS m.list p k = true := by rw [hres]; simp [d1, d2, d3, d4, d5]
      have ht := hpk1 hrs
      obtain ⟨-, e0⟩ := hrb hrs
      subst e0
      have hmk : min k m.list.length = k := by omega
      have her : (m.list.eraseIdx k).map Assoc.v = List.take k (m.list.map Assoc.v) ++ List.drop (k + 1) (m.list.map Assoc.v) := by rw [List.eraseIdx_eq_take_drop_succ]; simp [List.map_take, List.map_drop]
      simp [optV, hi_v, hmk, etk, h0, chunk_v, d4]
      refine ⟨by omega, by omega, ⟨by omega, by omega⟩, ⟨fun z hz => ?_, by unfold roomOk; omega⟩, ?_⟩
      · obtain ⟨x, _, rfl⟩ := List.mem_map.1 (List.mem_of_mem_drop hz); rfl
      refine goCall_gen [] [] [] [] none f1 (by simp) ?_
      simp
      refine goTest_dec (fun q6 => ?_) (fun q6 => ?_)
      · exfalso; omega
      simp
      refine ⟨by unfold roomOk; omega, ?_⟩
      obtain ⟨L, hL⟩ : ∃ L : List Assoc, L = m.list.eraseIdx k ++ [y0] := ⟨_, rfl⟩
      obtain ⟨R, hR⟩ : ∃ R : List Int, R = [] := ⟨_, rfl⟩
      have hT : T = (L, R) := by rw [hL, hR]; exact ht
      have e1 : L.map Assoc.v = (List.take k (m.list.map Assoc.v) ++ List.drop (k + 1) (m.list.map Assoc.v)) ++ [y0.v] := by rw [hL, List.map_append, her]; rfl
      have e2 : L.length = k + (m.list.length - (k + 1)) + 1 := by rw [hL]; simp [hel]; omega
      have hrl : R.length ≤ 12 := by rw [hT] at htl; exact htl
      refine go_loop (fun i : Nat => { env := [(2, .ptr 2 0), (4, .ptr 4 0), (5, .ptr 5 0), (190, .sl (some 2) 1 (R.map iV)), (191, .int .i64 (R.length : Nat)), (192, .int .i64 (i : Nat))], loc := [], box := [(2, m.cells), (4, List.replicate 3 .undef), (5, [.int .i64 (m.records + 1), .sl (some 0) 14 (L.map Assoc.v), .sl (some 1) 2 ((m.found ++ (R.take i).map fun k => (m.records, k)).map fV)])], stat := [(0, some (.own L.length 14)), (1, some (.own (m.found.length + i) 2)), (2, some (.own R.length 1))] }) (fun i => i ≤ R.length) (fun i => R.length - i) 0 (by omega) (Weak.of [(0, some 2144, k + (m.list.length - (k + 1)) + 1, 14), (1, some 1, m.found.length, 2), (2, some 2304, 0, 1)] [(2, 2), (4, 4), (5, 5)] (by simp [Monitor.cells, fsl, List.replicate, e1, e2, hR, assoc_v, iV, hmk])) ?_
      clear hL hR ht e1 e2
      intro i hi
      have hmin : min i R.length = i := by omega
      simp [Monitor.cells, fsl]
      refine goTest_dec (fun hlt => ?_) (fun hge => ?_)
      · have hs2 : List.take (i + 1) (R.map (fV ∘ fun k => (m.records, k))) = List.take i (R.map (fV ∘ fun k => (m.records, k))) ++ [fV (m.records, nth R i)] := by rw [← List.map_take, take_nth hlt]; simp [List.map_take]
        simp [hlt, iV, hmin]
        refine ⟨by unfold roomOk; omega, by omega, Again.mk (i + 1) hlt (by omega) (Weak.of [(0, some 0, L.length, 14), (1, some 1, m.found.length + (i + 1), 2), (2, some 2, R.length, 1)] [(2, 2), (4, 4), (5, 5)] ?_)⟩
        simp [Monitor.cells, fsl, List.replicate, hs2, Nat.add_assoc, fV]
      · obtain rfl : i = R.length := by omega
        rw [← hRR, hT]
        simp
        exact Ends.mk [] [] (by simp [List.take_of_length_le])
    all_goals (have hrs : restartS m.list p k = false := by rw [hres]; simp [*])
    all_goals (have ht := hpk2 hrs)
    all_goals
      simp [optV, hi_v, h2, assoc_v]
      refine goDCall_eq a1 (by simp) (by simp) ?_
      simp [h2]
      refine goDStep_eld 5 1 9000 rfl rfl rfl (by simp [h2]) (by simp) ?_
      simp [hset]
      obtain ⟨L, hL⟩ : ∃ L : List Assoc, L = m.list.set k y := ⟨_, rfl⟩
      obtain ⟨R, hR⟩ : ∃ R : List Int, R = rl := ⟨_, rfl⟩
      have hT : T = (L, R) := by rw [hL, hR]; exact ht
      have hrl : R.length ≤ 12 := by rw [hT] at htl; exact htl
      refine go_loop (fun i : Nat => { env := [(2, .ptr 2 0), (4, .ptr 4 0), (5, .ptr 5 0), (190, .sl (some 2) 1 (R.map iV)), (191, .int .i64 (R.length : Nat)), (192, .int .i64 (i : Nat))], loc := [], box := [(2, m.cells), (4, List.replicate 3 .undef), (5, [.int .i64 (m.records + 1), .sl (some 0) 14 (L.map Assoc.v), .sl (some 1) 2 ((m.found ++ (R.take i).map fun k => (m.records, k)).map fV)])], stat := [(0, some (.own L.length 14)), (1, some (.own (m.found.length + i) 2)), (2, some (.own R.length 1))] }) (fun i => i ≤ R.length) (fun i => R.length - i) 0 (by omega) (Weak.of [(0, some 9000, m.list.length, 14), (1, some 1, m.found.length, 2), (2, some 2816, rl.length, 1)] [(2, 2), (4, 4), (5, 5)] (by simp [Monitor.cells, fsl, List.replicate, hL, hR, assoc_v, iV])) ?_
      clear hL hR ht
      intro i hi
      have hmin : min i R.length = i := by omega
      simp [Monitor.cells, fsl]
      refine goTest_dec (fun hlt => ?_) (fun hge => ?_)
      · have hs2 : List.take (i + 1) (R.map (fV ∘ fun k => (m.records, k))) = List.take i (R.map (fV ∘ fun k => (m.records, k))) ++ [fV (m.records, nth R i)] := by rw [← List.map_take, take_nth hlt]; simp [List.map_take]
        simp [hlt, iV, hmin]
        refine ⟨by unfold roomOk; omega, by omega, Again.mk (i + 1) hlt (by omega) (Weak.of [(0, some 0, L.length, 14), (1, some 1, m.found.length + (i + 1), 2), (2, some 2, R.length, 1)] [(2, 2), (4, 4), (5, 5)] ?_)⟩
        simp [Monitor.cells, fsl, List.replicate, hs2, Nat.add_assoc, fV]
      · obtain rfl : i = R.length := by omega
        rw [← hRR, hT]
        simp
        exact Ends.mk [] [] (by simp [List.take_of_length_le])
end

section
set_option maxRecDepth 200000
set_option maxHeartbeats 16000000
attribute [-simp] List.getD_eq_getElem?_getD

/-- A monitor that was drawn. -/
structure Monitor.dr (m : Monitor) : Prop where
  recs : -1 ≤ m.records ∧ m.records ≤ 61
  len : m.list.length ≤ 10
  each : ∀ x ∈ m.list, x.dr
  found : m.found.length ≤ 3000
theorem Monitor.dr.bd {m : Monitor} (h : m.dr) : m.bd := ⟨by have := h.recs; omega, by have := h.len; omega, fun x hx => (h.each x hx).bd, by have := h.found; omega⟩
theorem Monitor.sm.dr {m : Monitor} (h : m.sm 2000) : m.dr := ⟨by have := h.recs; omega, by have := h.len; omega, fun x hx => Assoc.ok_dr (h.each x hx), by have := h.found; omega⟩

inductive MdR (src : List UInt8) (a k : Int) : V → List (List V) → Prop
  | mk (m : Monitor) (b : Int) (h : m.dr) (hb : a ≤ b ∧ b ≤ a + k) : MdR src a k m.v [[bsl src, .int .i64 b]]

theorem l92Bad_ok (src : List UInt8) (a : Int) (h : 0 ≤ a ∧ a < 4000000) : ∃ R bo, MdR src a 4000 R bo ∧ Fn Tryz.prog fn_spec_l92Bad [.ptr 1000 0] [[bsl src, .int .i64 a]] R bo := by
  refine Fx.of_go ln_spec_l92Bad rfl ?_
  simp [ac_spec_l92Bad, bsl]
  refine goMonitor rfl (by omega) fun m b hm hb => ?_
  have hml := hm.len
  have hmf := hm.found
  have hmr := hm.recs
  have hme : ∀ x ∈ m.list, x.dr := fun x hx => Assoc.ok_dr (hm.each x hx)
  have c1 := l32Copy_ok m (hm.bd (by omega))
  simp only [mon_v, Monitor.own] at c1
  simp [mon_v]
  refine goCall_eq c1 (by simp) ?_
  simp
  refine goPick (n := 14) rfl (by omega) (by omega) fun r1 h1 => ?_
  simp
  refine goTest_dec (fun z0 => ?_) (fun z0 => ?_)
  · simp [z0]
    refine goPick4 rfl (by omega) fun r2 h2 => ?_
    rcases h2 with rfl | rfl | rfl | rfl
    · simp
      exact ⟨_, _, .mk ⟨-1, m.list, m.found⟩ (b + 1 + 1) ⟨by simp, by simp only; omega, hme, by simp only; omega⟩ (by omega), Ends.mk [] [(1000, 1000)] (by simp [bsl, mon_v])⟩
    · simp
      exact ⟨_, _, .mk ⟨0, m.list, m.found⟩ (b + 1 + 1) ⟨by simp, by simp only; omega, hme, by simp only; omega⟩ (by omega), Ends.mk [] [(1000, 1000)] (by simp [bsl, mon_v])⟩
    · simp
      exact ⟨_, _, .mk ⟨60, m.list, m.found⟩ (b + 1 + 1) ⟨by simp, by simp only; omega, hme, by simp only; omega⟩ (by omega), Ends.mk [] [(1000, 1000)] (by simp [bsl, mon_v])⟩
    · simp
      exact ⟨_, _, .mk ⟨61, m.list, m.found⟩ (b + 1 + 1) ⟨by simp, by simp only; omega, hme, by simp only; omega⟩ (by omega), Ends.mk [] [(1000, 1000)] (by simp [bsl, mon_v])⟩
  simp [z0]
  refine goTest_dec (fun z1 => ?_) (fun z1 => ?_)
  · simp [z1]
    obtain ⟨r2, h2, f2⟩ := pickI src (b + 1) 9 (by omega) (by omega)
    simp only [bsl] at f2
    refine goDCall_gen [] [(1000, 1000)] [] [] none f2 (by simp [bsl]) (by simp [bsl]) ?_
    simp
    refine ⟨by omega, ?_⟩
    obtain ⟨r3, h3, f3⟩ := pickI src (b + 1 + 1) 14 (by omega) (by omega)
    simp only [bsl] at f3
    refine goDCall_gen [] [(1000, 1000)] [] [] none f3 (by simp [bsl]) (by simp [bsl]) ?_
    simp
    refine ⟨by omega, by unfold roomOk; omega, ?_⟩
    exact ⟨_, _, .mk ⟨m.records, m.list, m.found ++ [((r2 : Int) - 1, (r3 : Int) - 1)]⟩ (b + 1 + 1 + 1) ⟨by simp only; omega, by simp only; omega, hme, by simp; omega⟩ (by omega), Ends.mk [] [(1000, 1000)] (by simp [bsl, mon_v, fV])⟩
  simp [z1]
  refine goTest_dec (fun z2 => ?_) (fun z2 => ?_)
  · simp [z2]
    refine ⟨⟨fun a _ => rfl, by unfold roomOk; omega⟩, ?_⟩
    exact ⟨_, _, .mk ⟨m.records, m.list ++ m.list, m.found⟩ (b + 1) ⟨by simp only; omega, by simp; omega, by simpa using hme, by simp only; omega⟩ (by omega), Ends.mk [] [(1000, 1000)] (by simp [bsl, mon_v])⟩
  simp [z2]
  refine goTest_dec (fun z3 => ?_) (fun z3 => ?_)
  · simp [z3]
    obtain ⟨_, _, ⟨y, b2, hy, hb2⟩, f2⟩ := l92Wrong_ok src (b + 1) (by omega)
    simp only [bsl, assoc_v] at f2
    refine goDCall_gen [] [(1000, 1000)] [] [] none f2 (by simp [bsl]) (by simp [bsl]) ?_
    simp
    refine ⟨by unfold roomOk; omega, ?_⟩
    have hy2 : ∀ x ∈ m.list ++ [y], x.dr := by
      intro x hx
      rcases List.mem_append.1 hx with q | q
      · exact hme x q
      · rw [List.mem_singleton.1 q]; exact hy
    exact ⟨_, _, .mk ⟨m.records, m.list ++ [y], m.found⟩ b2 ⟨by simp only; omega, by simp; omega, hy2, by simp only; omega⟩ (by omega), Ends.mk [] [(1000, 1000)] (by simp [bsl, mon_v, assoc_v])⟩
  simp [z3]
  exact ⟨_, _, .mk m (b + 1) hm.dr (by omega), Ends.mk [] [(1000, 1000)] (by simp [bsl, mon_v])⟩

/-- A monitor and a text that were drawn. -/
inductive MsR : V → List (List V) → Prop
  | mk (m : Monitor) (s : List UInt8) (hm : m.dr) (hs : s.length ≤ 1000) : MsR (.tup [m.v, .str s]) []

theorem DrawMonitorStep_ok (code : List UInt8) : ∃ m s, Monitor.dr m ∧ s.length ≤ 1000 ∧ Fn Tryz.prog fn_spec_DrawMonitorStep [bsl code] [] (.tup [m.v, .str s]) [] := by
  obtain ⟨src, ho⟩ : ∃ s, Fn Tryz.prog fn_spec_l6Open [bsl code] [] (.ptr 1000 0) [[bsl s, .int .i64 0]] := ⟨_, open_ok code⟩
  suffices h : ∃ R bo, MsR R bo ∧ Fn Tryz.prog fn_spec_DrawMonitorStep [bsl code] [] R bo by
    obtain ⟨_, _, ⟨m, s, h1, h2⟩, f⟩ := h
    exact ⟨m, s, h1, h2, f⟩
  refine Fx.of_go ln_spec_DrawMonitorStep rfl ?_
  simp only [bsl] at ho
  simp [ac_spec_DrawMonitorStep, bsl]
  refine goCall_gen [] [] [] [] (some 1000) ho (by simp [bsl]) ?_
  simp [bsl]
  refine goMonitor rfl (by omega) fun m b hm hb => ?_
  have hm := hm.dr
  simp [mon_v]
  refine goPick (n := 16) rfl (by omega) (by omega) fun r1 h1 => ?_
  simp
  refine goTest_dec (fun z0 => ?_) (fun z0 => ?_)
  · simp
    obtain ⟨_, _, ⟨m, b, hm, hb2⟩, f2⟩ := l92Bad_ok src (b + 1) (by omega)
    simp only [bsl, mon_v] at f2
    refine goCall_gen [] [(1000, 8)] [] [] none f2 (by simp [bsl]) ?_
    simp
    cases w : decide (0 < m.list.length)
    · simp
      refine goTalk rfl (by omega) fun t e ht he => ?_
      have f3 := spec_TalkRecords_ok t 0 ht (by omega)
      obtain ⟨hrl, htx⟩ := records_small t 0
      generalize recordsT t 0 = TL at *
      simp only [talk_v, rsl] at f3
      simp [talk_v]
      refine goCall_eq f3 (by simp) ?_
      simp
      refine goTest_dec (fun w0 => ?_) (fun w0 => ?_)
      · simp
        obtain ⟨_, _, ⟨s, b5, hs5, hb5⟩, f5⟩ := l91Bytes_ok src e 20 (by omega) (by omega)
        simp only [bsl] at f5
        refine goDCall_gen [] [(1000, 8)] [] [] none f5 (by simp [bsl]) (by simp [bsl]) ?_
        simp
        exact ⟨_, _, .mk m s hm (by omega), Ends.mk [] [] (by simp [mon_v])⟩
      · have w1 : 0 < TL.length := by
          rcases Nat.eq_zero_or_pos TL.length with q | q
          · exact absurd (List.eq_nil_of_length_eq_zero q) w0
          · exact q
        simp
        obtain ⟨r5, h5, f5⟩ := pickI src e 2 (by omega) (by omega)
        simp only [bsl] at f5
        refine goDCall_gen [] [(1000, 8)] [] [] none f5 (by simp [bsl]) (by simp [bsl]) ?_
        simp
        obtain ⟨r6, h6, f6⟩ := pickI src (e + 1) TL.length (by omega) (by omega)
        simp only [bsl] at f6
        refine goDCall_gen [] [(1000, 8)] [] [] none f6 (by simp [bsl]) (by simp [bsl]) ?_
        obtain ⟨j, hj, hj2⟩ : ∃ j : Nat, (r5 : Int) * (r6 : Int) = j ∧ j < TL.length := by
          have h5c : r5 = 0 ∨ r5 = 1 := by omega
          rcases h5c with rfl | rfl
          · exact ⟨0, by simp, w1⟩
          · exact ⟨r6, by simp, by omega⟩
        have hjt := htx _ (nth_mem hj2)
        have f7 := spoil_ok src (e + 1 + 1) (nth TL j).text (by omega) (by omega)
        obtain ⟨_, _, ⟨s, b7, hs7, hb7⟩, f7⟩ := f7
        simp only [bsl] at f7
        simp [hj, hj2, rec_v]
        refine ⟨by omega, ?_⟩
        refine goDCall_gen [] [(1000, 8)] [] [] none f7 (by simp [bsl]) (by simp [bsl]) ?_
        simp
        exact ⟨_, _, .mk m s hm (by omega), Ends.mk [] [] (by simp [mon_v])⟩
    · have w := of_decide_eq_true w
      simp
      refine goPick (n := 5) rfl (by omega) (by omega) fun r2 h2 => ?_
      simp
      refine goTest_dec (fun w2 => ?_) (fun w2 => ?_)
      rotate_left
      · simp
        refine goTalk rfl (by omega) fun t e ht he => ?_
        have f3 := spec_TalkRecords_ok t 0 ht (by omega)
        obtain ⟨hrl, htx⟩ := records_small t 0
        generalize recordsT t 0 = TL at *
        simp only [talk_v, rsl] at f3
        simp [talk_v]
        refine goCall_eq f3 (by simp) ?_
        simp
        refine goTest_dec (fun w0 => ?_) (fun w0 => ?_)
        · simp
          obtain ⟨_, _, ⟨s, b5, hs5, hb5⟩, f5⟩ := l91Bytes_ok src e 20 (by omega) (by omega)
          simp only [bsl] at f5
          refine goDCall_gen [] [(1000, 8)] [] [] none f5 (by simp [bsl]) (by simp [bsl]) ?_
          simp
          exact ⟨_, _, .mk m s hm (by omega), Ends.mk [] [] (by simp [mon_v])⟩
        · have w1 : 0 < TL.length := by
            rcases Nat.eq_zero_or_pos TL.length with q | q
            · exact absurd (List.eq_nil_of_length_eq_zero q) w0
            · exact q
          simp
          obtain ⟨r5, h5, f5⟩ := pickI src e 2 (by omega) (by omega)
          simp only [bsl] at f5
          refine goDCall_gen [] [(1000, 8)] [] [] none f5 (by simp [bsl]) (by simp [bsl]) ?_
          simp
          obtain ⟨r6, h6, f6⟩ := pickI src (e + 1) TL.length (by omega) (by omega)
          simp only [bsl] at f6
          refine goDCall_gen [] [(1000, 8)] [] [] none f6 (by simp [bsl]) (by simp [bsl]) ?_
          obtain ⟨j, hj, hj2⟩ : ∃ j : Nat, (r5 : Int) * (r6 : Int) = j ∧ j < TL.length := by
            have h5c : r5 = 0 ∨ r5 = 1 := by omega
            rcases h5c with rfl | rfl
            · exact ⟨0, by simp, w1⟩
            · exact ⟨r6, by simp, by omega⟩
          have hjt := htx _ (nth_mem hj2)
          have f7 := spoil_ok src (e + 1 + 1) (nth TL j).text (by omega) (by omega)
          obtain ⟨_, _, ⟨s, b7, hs7, hb7⟩, f7⟩ := f7
          simp only [bsl] at f7
          simp [hj, hj2, rec_v]
          refine ⟨by omega, ?_⟩
          refine goDCall_gen [] [(1000, 8)] [] [] none f7 (by simp [bsl]) (by simp [bsl]) ?_
          simp
          exact ⟨_, _, .mk m s hm (by omega), Ends.mk [] [] (by simp [mon_v])⟩
      · simp
        obtain ⟨r3, h3, f3⟩ := pickI src (b + 1) m.list.length (by omega) (by have := hm.len; omega)
        simp only [bsl] at f3
        refine goDCall_gen [] [(1000, 8)] [] [] none f3 (by simp [bsl]) (by simp [bsl]) ?_
        have h3L : r3 < m.list.length := by omega
        simp [h3L, assoc_v]
        obtain ⟨_, _, ⟨p, b4, hp4, hb4⟩, f4⟩ := l92Packet_ok src (b + 1 + 1) (nth m.list r3) (by omega) (hm.each _ (nth_mem h3L))
        simp only [bsl, assoc_v, packet_v] at f4
        refine goDCall_gen [] [(1000, 8)] [] [] none f4 (by simp [bsl]) (by simp [bsl]) ?_
        have f5 := spec_PacketPut_ok p (by omega)
        have hpt := textP_len p
        generalize textP p = tx at *
        simp only [packet_v] at f5
        simp [packet_v]
        refine goDCall_eq f5 (by simp) (by simp) ?_
        simp
        obtain ⟨_, _, ⟨s, b6, hs6, hb6⟩, f6⟩ := spoil_ok src b4 tx (by omega) (by omega)
        simp only [bsl] at f6
        refine goDCall_gen [] [(1000, 8)] [] [] none f6 (by simp [bsl]) (by simp [bsl]) ?_
        simp
        exact ⟨_, _, .mk m s hm (by omega), Ends.mk [] [] (by simp [mon_v])⟩
  · simp
    cases w : decide (0 < m.list.length)
    · simp
      refine goTalk rfl (by omega) fun t e ht he => ?_
      have f3 := spec_TalkRecords_ok t 0 ht (by omega)
      obtain ⟨hrl, htx⟩ := records_small t 0
      generalize recordsT t 0 = TL at *
      simp only [talk_v, rsl] at f3
      simp [talk_v]
      refine goCall_eq f3 (by simp) ?_
      simp
      refine goTest_dec (fun w0 => ?_) (fun w0 => ?_)
      · simp
        obtain ⟨_, _, ⟨s, b5, hs5, hb5⟩, f5⟩ := l91Bytes_ok src e 20 (by omega) (by omega)
        simp only [bsl] at f5
        refine goDCall_gen [] [(1000, 8)] [] [] none f5 (by simp [bsl]) (by simp [bsl]) ?_
        simp
        exact ⟨_, _, .mk m s hm (by omega), Ends.mk [] [] (by simp [mon_v])⟩
      · have w1 : 0 < TL.length := by
          rcases Nat.eq_zero_or_pos TL.length with q | q
          · exact absurd (List.eq_nil_of_length_eq_zero q) w0
          · exact q
        simp
        obtain ⟨r5, h5, f5⟩ := pickI src e 2 (by omega) (by omega)
        simp only [bsl] at f5
        refine goDCall_gen [] [(1000, 8)] [] [] none f5 (by simp [bsl]) (by simp [bsl]) ?_
        simp
        obtain ⟨r6, h6, f6⟩ := pickI src (e + 1) TL.length (by omega) (by omega)
        simp only [bsl] at f6
        refine goDCall_gen [] [(1000, 8)] [] [] none f6 (by simp [bsl]) (by simp [bsl]) ?_
        obtain ⟨j, hj, hj2⟩ : ∃ j : Nat, (r5 : Int) * (r6 : Int) = j ∧ j < TL.length := by
          have h5c : r5 = 0 ∨ r5 = 1 := by omega
          rcases h5c with rfl | rfl
          · exact ⟨0, by simp, w1⟩
          · exact ⟨r6, by simp, by omega⟩
        have hjt := htx _ (nth_mem hj2)
        have f7 := spoil_ok src (e + 1 + 1) (nth TL j).text (by omega) (by omega)
        obtain ⟨_, _, ⟨s, b7, hs7, hb7⟩, f7⟩ := f7
        simp only [bsl] at f7
        simp [hj, hj2, rec_v]
        refine ⟨by omega, ?_⟩
        refine goDCall_gen [] [(1000, 8)] [] [] none f7 (by simp [bsl]) (by simp [bsl]) ?_
        simp
        exact ⟨_, _, .mk m s hm (by omega), Ends.mk [] [] (by simp [mon_v])⟩
    · have w := of_decide_eq_true w
      simp
      refine goPick (n := 5) rfl (by omega) (by omega) fun r2 h2 => ?_
      simp
      refine goTest_dec (fun w2 => ?_) (fun w2 => ?_)
      rotate_left
      · simp
        refine goTalk rfl (by omega) fun t e ht he => ?_
        have f3 := spec_TalkRecords_ok t 0 ht (by omega)
        obtain ⟨hrl, htx⟩ := records_small t 0
        generalize recordsT t 0 = TL at *
        simp only [talk_v, rsl] at f3
        simp [talk_v]
        refine goCall_eq f3 (by simp) ?_
        simp
        refine goTest_dec (fun w0 => ?_) (fun w0 => ?_)
        · simp
          obtain ⟨_, _, ⟨s, b5, hs5, hb5⟩, f5⟩ := l91Bytes_ok src e 20 (by omega) (by omega)
          simp only [bsl] at f5
          refine goDCall_gen [] [(1000, 8)] [] [] none f5 (by simp [bsl]) (by simp [bsl]) ?_
          simp
          exact ⟨_, _, .mk m s hm (by omega), Ends.mk [] [] (by simp [mon_v])⟩
        · have w1 : 0 < TL.length := by
            rcases Nat.eq_zero_or_pos TL.length with q | q
            · exact absurd (List.eq_nil_of_length_eq_zero q) w0
            · exact q
          simp
          obtain ⟨r5, h5, f5⟩ := pickI src e 2 (by omega) (by omega)
          simp only [bsl] at f5
          refine goDCall_gen [] [(1000, 8)] [] [] none f5 (by simp [bsl]) (by simp [bsl]) ?_
          simp
          obtain ⟨r6, h6, f6⟩ := pickI src (e + 1) TL.length (by omega) (by omega)
          simp only [bsl] at f6
          refine goDCall_gen [] [(1000, 8)] [] [] none f6 (by simp [bsl]) (by simp [bsl]) ?_
          obtain ⟨j, hj, hj2⟩ : ∃ j : Nat, (r5 : Int) * (r6 : Int) = j ∧ j < TL.length := by
            have h5c : r5 = 0 ∨ r5 = 1 := by omega
            rcases h5c with rfl | rfl
            · exact ⟨0, by simp, w1⟩
            · exact ⟨r6, by simp, by omega⟩
          have hjt := htx _ (nth_mem hj2)
          have f7 := spoil_ok src (e + 1 + 1) (nth TL j).text (by omega) (by omega)
          obtain ⟨_, _, ⟨s, b7, hs7, hb7⟩, f7⟩ := f7
          simp only [bsl] at f7
          simp [hj, hj2, rec_v]
          refine ⟨by omega, ?_⟩
          refine goDCall_gen [] [(1000, 8)] [] [] none f7 (by simp [bsl]) (by simp [bsl]) ?_
          simp
          exact ⟨_, _, .mk m s hm (by omega), Ends.mk [] [] (by simp [mon_v])⟩
      · simp
        obtain ⟨r3, h3, f3⟩ := pickI src (b + 1 + 1) m.list.length (by omega) (by have := hm.len; omega)
        simp only [bsl] at f3
        refine goDCall_gen [] [(1000, 8)] [] [] none f3 (by simp [bsl]) (by simp [bsl]) ?_
        have h3L : r3 < m.list.length := by omega
        simp [h3L, assoc_v]
        obtain ⟨_, _, ⟨p, b4, hp4, hb4⟩, f4⟩ := l92Packet_ok src (b + 1 + 1 + 1) (nth m.list r3) (by omega) (hm.each _ (nth_mem h3L))
        simp only [bsl, assoc_v, packet_v] at f4
        refine goDCall_gen [] [(1000, 8)] [] [] none f4 (by simp [bsl]) (by simp [bsl]) ?_
        have f5 := spec_PacketPut_ok p (by omega)
        have hpt := textP_len p
        generalize textP p = tx at *
        simp only [packet_v] at f5
        simp [packet_v]
        refine goDCall_eq f5 (by simp) (by simp) ?_
        simp
        obtain ⟨_, _, ⟨s, b6, hs6, hb6⟩, f6⟩ := spoil_ok src b4 tx (by omega) (by omega)
        simp only [bsl] at f6
        refine goDCall_gen [] [(1000, 8)] [] [] none f6 (by simp [bsl]) (by simp [bsl]) ?_
        simp
        exact ⟨_, _, .mk m s hm (by omega), Ends.mk [] [] (by simp [mon_v])⟩
end

section
set_option maxRecDepth 200000
set_option maxHeartbeats 8000000
attribute [-simp] List.getD_eq_getElem?_getD

theorem monS_cases (m : Monitor) (s : List UInt8) : (MonOk m ∧ m.records < 60 ∧ monS m s = monStep m s) ∨ ((m.ok = false ∨ 60 ≤ m.records) ∧ monS m s = zMonitor) := by
  unfold monS
  cases h : m.ok
  · right; simp
  · by_cases h2 : m.records < 60
    · left; simp [h2, mon_iff.1 h]
    · right; simp [h2]; omega

theorem MonOk.bd {m : Monitor} (h : MonOk m) (hf : m.found.length ≤ 10000) : m.bd := ⟨by have := h.recs; omega, by have := h.len; omega, fun x hx => Assoc.ok_bd (h.each x hx).1, by omega⟩
theorem zMonitor_bd : zMonitor.bd := (zMonitor_sm 0).bd (by omega)
theorem monS_bd {m : Monitor} (hf : m.found.length ≤ 3000) (s : List UInt8) : (monS m s).bd := by
  rcases monS_cases m s with ⟨h1, h2, h3⟩ | ⟨_, h3⟩
  · rw [h3]
    have := textL_told m.list s
    exact (monStep_ok h1 h2 s).bd (by simp [monStep]; omega)
  · rw [h3]; exact zMonitor_bd
/-- A step that was taken. -/
theorem monS_taken {m : Monitor} {s : List UInt8} (h : decide ((monS m s).records = 0) = false) : MonOk m ∧ monS m s = ⟨m.records + 1, (textL m.list s).1, m.found ++ (textL m.list s).2.map fun r => (m.records, r)⟩ := by
  rcases monS_cases m s with ⟨h1, h2, h3⟩ | ⟨_, h3⟩
  · exact ⟨h1, h3⟩
  · rw [h3] at h; exact absurd h (by decide)
theorem sameMonitor_self (m : Monitor) (h : m.bd) : Fn Tryz.prog fn_laws_sameMonitor [m.v, m.v] [] (.bool true) [] := by
  have := sameMonitor_ok m m h h
  simpa using this
theorem sameAssocs_self (l : List Assoc) (h : l.length ≤ 1000000) (h1 : ∀ x ∈ l, x.bd) : Fn Tryz.prog fn_laws_sameAssocs [asl l, asl l] [] (.bool true) [] := by
  have := sameAssocs_ok l l h h1 h1
  simpa using this
theorem sameFound_self (l : List (Int × Int)) (h : l.length ≤ 1000000) : Fn Tryz.prog fn_laws_sameFound [fsl l, fsl l] [] (.bool true) [] := by
  have := sameFound_ok l l (by omega)
  simpa using this
end

end Go.Proofs.YtpcfbgeabehmbaaGreat
