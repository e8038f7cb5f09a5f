/-
  Comparing lists, sides and associations; packets of a side.
  What the laws of steps have in common.
  Monitors of the program: valid ones, and what is found in them.
  Steps of monitors, by the program.
  Monitors that were drawn, and records for them.
  What the laws of monitors have in common.
  Captures that were drawn; captures and runs of the program.
  Parts that are written by the program.
-/
import Derived.Test.YtjkbbdmkgealfaaGreatDoorQ27
import Derived.Test.YtjkbbdmkgealfaaGreatDoorQ18
import Derived.Test.YtjkbbdmkgealfaaGreatDoorQ25
import Derived.Test.YtjkbbdmkgealfaaGreatDoorQ29
namespace Go.Proofs.YtjkbbdmkgealfaaGreatDoor
set_option linter.all false
section
set_option maxRecDepth 200000
set_option maxHeartbeats 4000000
attribute [-simp] List.getD_eq_getElem?_getD
end
section
set_option maxRecDepth 200000
set_option maxHeartbeats 8000000
attribute [-simp] List.getD_eq_getElem?_getD
end
section
set_option maxRecDepth 200000
set_option maxHeartbeats 8000000
attribute [-simp] List.getD_eq_getElem?_getD
theorem impl_MonitorValid_ok (m : Monitor) (hm : m.bd) : Fn Tryz.prog fn_impl_MonitorValid [m.v] [] (.bool m.ok) [] := by
  refine Fn.of_go ln_impl_MonitorValid rfl ?_
  have hl := hm.len
  have hf := hm.found
  have hr := hm.recs
  have hmo : m.ok = (allTo (listAt m.list) m.list.length && (fsOk m.records m.found && (inB m.records 0 60 && decide (m.list.length ≤ 3)))) := by unfold Monitor.ok; simp only [Bool.and_assoc]
  have no : ¬ (0 ≤ m.records ∧ m.records ≤ 60 ∧ m.list.length ≤ 3) → m.ok = false := by
    intro h
    rw [hmo]
    simp [inB]
    intros; omega
  simp [ac_impl_MonitorValid, mon_v]
  cases q1 : decide (m.records < 0)
  rotate_left
  · simp; exact Ends.mk [] [] (by simp [no (by have := of_decide_eq_true q1; omega)])
  simp
  cases q2 : decide (60 < m.records)
  rotate_left
  · simp; exact Ends.mk [] [] (by simp [no (by have := of_decide_eq_true q2; omega)])
  simp
  cases q3 : decide (3 < m.list.length)
  rotate_left
  · simp; exact Ends.mk [] [] (by simp [no (by have := of_decide_eq_true q3; omega)])
  simp
  have q1 := of_decide_eq_false q1
  have q2 := of_decide_eq_false q2
  have q3 := of_decide_eq_false q3
  refine go_loop (fun i : Nat => { env := [(1, .ptr 1 0), (22, .sl none 14 (m.list.map Assoc.v)), (23, .int .i64 (m.list.length : Nat)), (24, .int .i64 (i : Nat))], loc := [], box := [(1, m.cells)], stat := [] }) (fun i => i ≤ m.list.length ∧ allTo (listAt m.list) i = true) (fun i => m.list.length - i) 0 ⟨by omega, rfl⟩ (Weak.of [] [(1, 1)] (by simp [Monitor.cells, fsl])) ?_
  rintro i ⟨hi, hp⟩
  simp [Monitor.cells, fsl]
  refine goTest_dec (fun hlt => ?_) (fun hge => ?_)
  · have hbad := bad_list hlt
    have f1 := impl_AssocValid_ok (nth m.list i) (hm.each _ (nth_mem hlt))
    simp only [assoc_v] at f1
    have hla : listAt m.list i = ((nth m.list i).ok && decide ((nth m.list i).state ≠ 0) && allTo (fun k => !meet (nth m.list k).ports (nth m.list i).ports) i) := rfl
    simp [hlt, assoc_v]
    refine goCall_eq f1 (by simp) ?_
    cases q4 : (nth m.list i).ok
    · simp; exact Ends.mk [] [] (by simp [hbad (by simp [hla, q4])])
    simp
    refine goTest_dec (fun q5 => ?_) (fun q5 => ?_)
    · simp; exact Ends.mk [] [] (by simp [hbad (by simp [hla, q5])])
    simp
    obtain ⟨tk, htk⟩ : ∃ tk, tk = m.list.take i := ⟨_, rfl⟩
    have htl : tk.length = i := by rw [htk]; simp; omega
    have htn : ∀ k, k < i → nth tk k = nth m.list k := by
      intro k hk
      rw [nth_eq (by omega), nth_eq (by omega)]
      simp [htk]
    have htm : List.take i (m.list.map Assoc.v) = tk.map Assoc.v := by rw [htk, List.map_take]
    refine ⟨by omega, ?_⟩
    refine go_loop (fun k : Nat => { env := [(1, .ptr 1 0), (4, .ptr 4 0), (22, .sl none 14 (m.list.map Assoc.v)), (23, .int .i64 (m.list.length : Nat)), (24, .int .i64 (i : Nat)), (40, .sl none 14 (tk.map Assoc.v)), (41, .int .i64 (i : Nat)), (42, .int .i64 (k : Nat))], loc := [], box := [(1, m.cells), (4, (nth m.list i).cells)], stat := [] }) (fun k => k ≤ i ∧ allTo (fun k => !meet (nth m.list k).ports (nth m.list i).ports) k = true) (fun k => i - k) 0 ⟨by omega, rfl⟩ (Weak.of [] [(1, 1), (4, 4)] (by simp [Monitor.cells, fsl, Assoc.cells, Side.cells, psl, htm]; omega)) ?_
    rintro k ⟨hk, hpk⟩
    simp [Monitor.cells, fsl, Assoc.cells, Side.cells, psl]
    refine goTest_dec (fun hkl => ?_) (fun hkg => ?_)
    · have hkk : k < m.list.length := by omega
      have f2 := samePorts_ok (nth m.list k) (nth m.list i).src (nth m.list i).dst
      simp only [assoc_v] at f2
      have hpp : (nth m.list i).ports = ((nth m.list i).src, (nth m.list i).dst) := rfl
      simp [htl, hkl, htn k hkl, assoc_v]
      refine goCall_eq f2 (by simp) ?_
      simp
      refine goTest_bool (fun q6 => ?_) (fun q6 => ?_)
      · simp; exact Ends.mk [] [] (by simp [hbad (by rw [hla, allTo_false hkl (by simp [hpp, q6])]; simp)])
      · simp
        exact ⟨by omega, Again.mk (k + 1) ⟨hkl, allTo_succ hpk (by simp [hpp, q6])⟩ (by omega) (Weak.of [] [(1, 1), (4, 4)] (by simp [Monitor.cells, fsl, Assoc.cells, Side.cells, psl]))⟩
    · obtain rfl : k = i := by omega
      simp
      exact ⟨by omega, Again.mk (k + 1) ⟨hlt, allTo_succ hp (by rw [hla, q4, hpk]; simp [q5])⟩ (by omega) (Weak.of [] [(1, 1)] (by simp [Monitor.cells, fsl]))⟩
  · obtain rfl : i = m.list.length := by omega
    have f3 := foundOk_ok m.found m.records (by omega)
    simp only [fsl] at f3
    have e : m.ok = fsOk m.records m.found := by rw [hmo, hp]; simp [inB]; intros; omega
    rw [e]
    simp
    refine goCall_eq f3 (by simp) ?_
    simp
    exact Ends.mk [] [] (by simp)
end
section
set_option maxRecDepth 200000
set_option maxHeartbeats 16000000
attribute [-simp] List.getD_eq_getElem?_getD
theorem restart_iff {l : List Assoc} {p : Packet} (hp : p.ok = true) (i : Nat) : restartS l p i = (decide ((nth l i).state = 7) && (decide (p.tag = 0) && (decide (p.chunks.length = 1) && (decide ((nth p.chunks 0).kind = 1) && (getHello (nth p.chunks 0)).isSome)))) := by
  have ha : (nth p.chunks 0).kind = 1 → p.alone = decide (p.chunks.length = 1) := by
    intro hk
    have h1 := (packet_ok.1 hp).2.2.2.2.2.1
    have hmem : nth p.chunks 0 ∈ p.chunks := nth_mem (by omega)
    by_cases q : p.chunks.length = 1
    · obtain ⟨c, hc⟩ := List.length_eq_one_iff.1 q
      rw [alone_one hc hp]; simp [q]
    · simp only [q, decide_false]
      cases h : p.alone with
      | false => rfl
      | true =>
        simp only [Packet.alone, Bool.and_eq_true, Bool.or_eq_true, decide_eq_true_eq, List.all_eq_true] at h
        rcases h.1 with h | h
        · omega
        · have := h _ hmem
          simp [aloneK, hk] at this
  unfold restartS
  by_cases hk : (nth p.chunks 0).kind = 1
  · rw [ha hk]
    simp only [Bool.and_assoc, Bool.and_left_comm, Bool.and_comm]
  · simp [hk]
theorem find_at {m : Monitor} (h : MonOk m) {a b : Int} {k : Nat} (hk : k < m.list.length) (hm : meet (nth m.list k).ports (a, b) = true) : findM m.list a b = some k := by
  cases hf : findM m.list a b with
  | none => have := findM_none hf _ (nth_mem hk); rw [hm] at this; cases this
  | some j =>
    obtain ⟨hj, hmj⟩ := findM_some hf
    rw [apart_eq h.apart hk hj (meet_trans hm hmj)]
theorem impl_MonitorStep_ok (m : Monitor) (s : List UInt8) (hm : m.bd) (hf : m.found.length ≤ 800000) (hs : s.length ≤ 1000000) : Fn Tryz.prog fn_impl_MonitorStep [m.v, .str s] [] (monS m s).v [] := by
  refine Fn.of_go ln_impl_MonitorStep rfl ?_
  have hrec := hm.recs
  have v1 := impl_MonitorValid_ok m hm
  have hmS : monS m s = if m.ok && decide (m.records < 60) then monStep m s else zMonitor := rfl
  have hRv : (monStep m s).v = .agg [.int .i64 (m.records + 1), .sl none 14 ((textL m.list s).1.map Assoc.v), .sl none 2 ((m.found ++ (textL m.list s).2.map fun r => (m.records, r)).map fV)] := rfl
  have g1 := impl_PacketGet_ok s hs
  have hcode := getP_code s
  have hgp := getP_ok (t := s)
  have ht : textL m.list s = if (getP s).2 ≠ 0 then (m.list, [100 + (getP s).2]) else packL m.list (getP s).1 := rfl
  have htl := textL_told m.list s
  generalize hRR : (monS m s).v = RR
  generalize getP s = gp at *
  obtain ⟨p, code⟩ := gp
  simp only at hcode hgp ht
  simp only [mon_v] at v1
  simp only [resP, packet_v] at g1
  simp [ac_impl_MonitorStep, mon_v]
  refine goCall_eq v1 (by simp) ?_
  cases q1 : m.ok
  · rw [← hRR, hmS, q1, if_neg (by simp)]
    simp
    exact Ends.mk [] [] (by simp [zMonitor, mon_v])
  simp
  refine goTest_dec (fun q2 => ?_) (fun q2 => ?_)
  · rw [← hRR, hmS, if_neg (by simp; omega)]
    simp
    exact Ends.mk [] [] (by simp [zMonitor, mon_v])
  rw [hmS, if_pos (by simp [q1]; omega), hRv] at hRR
  clear hmS hRv v1
  generalize textL m.list s = T at *
  have hok := mon_iff.1 q1
  have hl := hok.len
  simp
  refine ⟨by omega, ⟨fun z a b _ h => by subst h; rfl, by unfold roomOk; omega⟩, ?_⟩
  refine go_loop (fun i : Nat => { env := [(1, .str s), (2, .ptr 2 0), (4, .ptr 4 0), (5, .ptr 5 0), (37, .sl none 14 (m.list.map Assoc.v)), (38, .int .i64 (m.list.length : Nat)), (39, .int .i64 (i : Nat))], loc := [], box := [(2, m.cells), (4, List.replicate 3 .undef), (5, [.int .i64 (m.records + 1), .sl (some 0) 14 ((m.list.take i).map Assoc.v), .sl (some 1) 2 (m.found.map fV)])], stat := [(0, some (.own i 14)), (1, some (.own m.found.length 2))] }) (fun i => i ≤ m.list.length) (fun i => m.list.length - i) 0 (by omega) (Weak.of [(0, none, 0, 14), (1, some 496, m.found.length, 2)] [(2, 2), (4, 4), (5, 5)] (by simp [Monitor.cells, fsl, List.replicate])) ?_
  intro i hi
  have hlen : (m.list.take i).length = i := by simp; omega
  simp [Monitor.cells, fsl]
  refine goTest_dec (fun hlt => ?_) (fun hge => ?_)
  · have hxb := hm.each _ (nth_mem hlt)
    have f1 := copyAssoc_ok (nth m.list i) (by have := hxb.1.2; omega) (by have := hxb.2.2; omega)
    simp only [assoc_v, own_c] at f1
    have hs := take_nth hlt
    simp [hlt, assoc_v]
    refine goDCall_eq f1 (by simp) (by simp) ?_
    simp
    refine ⟨by unfold roomOk; omega, by omega, Again.mk (i + 1) hlt (by omega) (Weak.of [(0, some 0, i + 1, 14), (1, some 1, m.found.length, 2)] [(2, 2), (4, 4), (5, 5)] ?_)⟩
    have hs2 : List.take (i + 1) (m.list.map Assoc.v) = List.take i (m.list.map Assoc.v) ++ [(nth m.list i).v] := by rw [← List.map_take, hs]; simp [List.map_take]
    rw [assoc_v] at hs2
    simp [Monitor.cells, fsl, hs2]
  obtain rfl : i = m.list.length := by omega
  have etk : List.take m.list.length (List.map Assoc.v m.list) = List.map Assoc.v m.list := List.take_of_length_le (by simp)
  simp [etk]
  refine goCall_eq g1 (by simp) ?_
  simp
  cases q3 : decide (code = 0)
  · have q3 := of_decide_eq_false q3
    rw [if_pos q3] at ht
    subst ht
    have e : 101 + code - 1 = 100 + code := by omega
    simp [e]
    refine ⟨by omega, by omega, by unfold roomOk; omega, ?_⟩
    rw [← hRR]
    exact Ends.mk [] [] (by simp [fV])
  have q3 := of_decide_eq_true q3
  rw [if_neg (by simpa using q3)] at ht
  have hp := hgp q3
  have hpl := (packet_ok.1 hp).2.2.2.2.2
  have h0 : 0 < p.chunks.length := by omega
  simp
  refine go_loop (fun x : Nat × Int => { env := [(2, .ptr 2 0), (4, .ptr 4 0), (5, .ptr 5 0), (8, .ptr 8 0), (10, .int .i64 x.2), (71, .sl (some 0) 14 (m.list.map Assoc.v)), (72, .int .i64 (m.list.length : Nat)), (73, .int .i64 (x.1 : Nat))], loc := [], box := [(2, m.cells), (4, List.replicate 3 .undef), (5, [.int .i64 (m.records + 1), .sl (some 0) 14 (m.list.map Assoc.v), .sl (some 1) 2 (m.found.map fV)]), (8, p.cells)], stat := [(0, some (.own m.list.length 14)), (1, some (.own m.found.length 2))] }) (fun x => x.1 ≤ m.list.length ∧ ((x.2 = -1 ∧ ∀ j, j < x.1 → meet (nth m.list j).ports (p.src, p.dst) = false) ∨ ∃ k : Nat, x.2 = k ∧ k < x.1 ∧ meet (nth m.list k).ports (p.src, p.dst) = true)) (fun x => m.list.length - x.1) (0, -1) ⟨by simp, Or.inl ⟨rfl, fun j hj => by simp at hj⟩⟩ (Weak.of [(0, some 0, m.list.length, 14), (1, some 1, m.found.length, 2)] [(2, 2), (4, 4), (5, 5), (8, 8)] (by simp [Monitor.cells, fsl, List.replicate, Packet.cells, csl])) ?_
  rintro ⟨i, at'⟩ ⟨hi, hat⟩
  simp only at hi hat
  simp [Monitor.cells, fsl, Packet.cells, csl]
  refine goTest_dec (fun hlt => ?_) (fun hge => ?_)
  · have f2 := samePorts_ok (nth m.list i) p.src p.dst
    simp only [assoc_v] at f2
    simp [hlt, assoc_v]
    refine goCall_eq f2 (by simp) ?_
    simp
    refine goTest_bool (fun q => ?_) (fun q => ?_)
    · simp
      exact ⟨by omega, Again.mk (i + 1, (i : Int)) ⟨hlt, Or.inr ⟨i, rfl, by simp, q⟩⟩ (by simp; omega) (Weak.of [(0, some 0, m.list.length, 14), (1, some 1, m.found.length, 2)] [(2, 2), (4, 4), (5, 5), (8, 8)] (by simp [Monitor.cells, fsl, List.replicate, Packet.cells, csl]))⟩
    · simp
      refine ⟨by omega, Again.mk (i + 1, at') ⟨hlt, ?_⟩ (by simp; omega) (Weak.of [(0, some 0, m.list.length, 14), (1, some 1, m.found.length, 2)] [(2, 2), (4, 4), (5, 5), (8, 8)] (by simp [Monitor.cells, fsl, List.replicate, Packet.cells, csl]))⟩
      rcases hat with ⟨h1, h2⟩ | ⟨k, h1, h2, h3⟩
      · refine Or.inl ⟨h1, fun j hj => ?_⟩
        rcases Nat.lt_succ_iff_lt_or_eq.1 hj with h | rfl
        · exact h2 j h
        · exact q
      · exact Or.inr ⟨k, h1, by simp; omega, h3⟩
  obtain rfl : i = m.list.length := by omega
  have hpk : packL m.list p = match findM m.list p.src p.dst with
    | none => beginL m.list p
    | some i => if restartS m.list p i then beginL (m.list.eraseIdx i) p else (m.list.set i (stepS (nth m.list i) p).1, (stepS (nth m.list i) p).2) := rfl
  have f1 := impl_AssocStep_own (newA p.src p.dst) p (newA_bd _ _) (by omega)
  rw [newA_v] at f1
  rcases hat with ⟨h1, h2⟩ | ⟨k, h1, h2, h3⟩
  · subst h1
    rw [findM_miss h2] at hpk
    have hbl : beginL m.list p = (if (nth p.chunks 0).kind ≠ 1 then (m.list, [104]) else
      if (stepS (newA p.src p.dst) p).2 ≠ [] then (m.list, (stepS (newA p.src p.dst) p).2) else
      if 3 ≤ m.list.length then (m.list, [105]) else (m.list ++ [(stepS (newA p.src p.dst) p).1], [])) := rfl
    simp only at hpk
    rw [hpk, hbl] at ht
    clear hpk hbl h2
    generalize stepS (newA p.src p.dst) p = r at *
    obtain ⟨y, rl⟩ := r
    simp only [packet_v, isl, assoc_v] at f1
    simp only at ht
    simp [h0, chunk_v]
    cases q4 : decide ((nth p.chunks 0).kind = 1)
    · rw [if_pos (of_decide_eq_false q4)] at ht
      simp
      refine ⟨by unfold roomOk; omega, ?_⟩
      obtain ⟨L, hL⟩ : ∃ L : List Assoc, L = m.list := ⟨_, rfl⟩
      obtain ⟨R, hR⟩ : ∃ R : List Int, R = [104] := ⟨_, rfl⟩
      have hT : T = (L, R) := by rw [hL, hR]; exact ht
      have hrl : R.length ≤ 12 := by rw [hT] at htl; exact htl
      refine go_loop (fun i : Nat => { env := [(2, .ptr 2 0), (4, .ptr 4 0), (5, .ptr 5 0), (190, .sl (some 2) 1 (R.map iV)), (191, .int .i64 (R.length : Nat)), (192, .int .i64 (i : Nat))], loc := [], box := [(2, m.cells), (4, List.replicate 3 .undef), (5, [.int .i64 (m.records + 1), .sl (some 0) 14 (L.map Assoc.v), .sl (some 1) 2 ((m.found ++ (R.take i).map fun k => (m.records, k)).map fV)])], stat := [(0, some (.own L.length 14)), (1, some (.own (m.found.length + i) 2)), (2, some (.own R.length 1))] }) (fun i => i ≤ R.length) (fun i => R.length - i) 0 (by omega) (Weak.of [(0, some 0, m.list.length, 14), (1, some 1, m.found.length, 2), (2, some 2176, 1, 1)] [(2, 2), (4, 4), (5, 5)] (by simp [Monitor.cells, fsl, List.replicate, hL, hR, assoc_v, iV])) ?_
      clear hL hR ht
      intro i hi
      have hmin : min i R.length = i := by omega
      simp [Monitor.cells, fsl]
      refine goTest_dec (fun hlt => ?_) (fun hge => ?_)
      · have hs2 : List.take (i + 1) (R.map (fV ∘ fun k => (m.records, k))) = List.take i (R.map (fV ∘ fun k => (m.records, k))) ++ [fV (m.records, nth R i)] := by rw [← List.map_take, take_nth hlt]; simp [List.map_take]
        simp [hlt, iV, hmin]
        refine ⟨by unfold roomOk; omega, by omega, Again.mk (i + 1) hlt (by omega) (Weak.of [(0, some 0, L.length, 14), (1, some 1, m.found.length + (i + 1), 2), (2, some 2, R.length, 1)] [(2, 2), (4, 4), (5, 5)] ?_)⟩
        simp [Monitor.cells, fsl, List.replicate, hs2, Nat.add_assoc, fV]
      · obtain rfl : i = R.length := by omega
        rw [← hRR, hT]
        simp
        exact Ends.mk [] [] (by simp [List.take_of_length_le])
    · rw [if_neg (by simpa using of_decide_eq_true q4)] at ht
      simp
      refine goCall_gen [] [] [] [] none f1 (by simp) ?_
      simp
      refine goTest_dec (fun q5 => ?_) (fun q5 => ?_)
      · have e5 : rl = [] := by cases rl with | nil => rfl | cons a l => simp at q5
        subst e5
        rw [if_neg (by simp)] at ht
        simp
        refine goTest_dec (fun q6 => ?_) (fun q6 => ?_)
        · rw [if_pos q6] at ht
          simp
          refine ⟨by unfold roomOk; omega, ?_⟩
          obtain ⟨L, hL⟩ : ∃ L : List Assoc, L = m.list := ⟨_, rfl⟩
          obtain ⟨R, hR⟩ : ∃ R : List Int, R = [105] := ⟨_, rfl⟩
          have hT : T = (L, R) := by rw [hL, hR]; exact ht
          have hrl : R.length ≤ 12 := by rw [hT] at htl; exact htl
          refine go_loop (fun i : Nat => { env := [(2, .ptr 2 0), (4, .ptr 4 0), (5, .ptr 5 0), (190, .sl (some 2) 1 (R.map iV)), (191, .int .i64 (R.length : Nat)), (192, .int .i64 (i : Nat))], loc := [], box := [(2, m.cells), (4, List.replicate 3 .undef), (5, [.int .i64 (m.records + 1), .sl (some 0) 14 (L.map Assoc.v), .sl (some 1) 2 ((m.found ++ (R.take i).map fun k => (m.records, k)).map fV)])], stat := [(0, some (.own L.length 14)), (1, some (.own (m.found.length + i) 2)), (2, some (.own R.length 1))] }) (fun i => i ≤ R.length) (fun i => R.length - i) 0 (by omega) (Weak.of [(0, some 0, m.list.length, 14), (1, some 1, m.found.length, 2), (2, some 2304, 1, 1)] [(2, 2), (4, 4), (5, 5)] (by simp [Monitor.cells, fsl, List.replicate, hL, hR, assoc_v, iV])) ?_
          clear hL hR ht
          intro i hi
          have hmin : min i R.length = i := by omega
          simp [Monitor.cells, fsl]
          refine goTest_dec (fun hlt => ?_) (fun hge => ?_)
          · have hs2 : List.take (i + 1) (R.map (fV ∘ fun k => (m.records, k))) = List.take i (R.map (fV ∘ fun k => (m.records, k))) ++ [fV (m.records, nth R i)] := by rw [← List.map_take, take_nth hlt]; simp [List.map_take]
            simp [hlt, iV, hmin]
            refine ⟨by unfold roomOk; omega, by omega, Again.mk (i + 1) hlt (by omega) (Weak.of [(0, some 0, L.length, 14), (1, some 1, m.found.length + (i + 1), 2), (2, some 2, R.length, 1)] [(2, 2), (4, 4), (5, 5)] ?_)⟩
            simp [Monitor.cells, fsl, List.replicate, hs2, Nat.add_assoc, fV]
          · obtain rfl : i = R.length := by omega
            rw [← hRR, hT]
            simp
            exact Ends.mk [] [] (by simp [List.take_of_length_le])
        · rw [if_neg q6] at ht
          simp
          refine ⟨by unfold roomOk; omega, ?_⟩
          obtain ⟨L, hL⟩ : ∃ L : List Assoc, L = m.list ++ [y] := ⟨_, rfl⟩
          obtain ⟨R, hR⟩ : ∃ R : List Int, R = [] := ⟨_, rfl⟩
          have hT : T = (L, R) := by rw [hL, hR]; exact ht
          have hrl : R.length ≤ 12 := by rw [hT] at htl; exact htl
          refine go_loop (fun i : Nat => { env := [(2, .ptr 2 0), (4, .ptr 4 0), (5, .ptr 5 0), (190, .sl (some 2) 1 (R.map iV)), (191, .int .i64 (R.length : Nat)), (192, .int .i64 (i : Nat))], loc := [], box := [(2, m.cells), (4, List.replicate 3 .undef), (5, [.int .i64 (m.records + 1), .sl (some 0) 14 (L.map Assoc.v), .sl (some 1) 2 ((m.found ++ (R.take i).map fun k => (m.records, k)).map fV)])], stat := [(0, some (.own L.length 14)), (1, some (.own (m.found.length + i) 2)), (2, some (.own R.length 1))] }) (fun i => i ≤ R.length) (fun i => R.length - i) 0 (by omega) (Weak.of [(0, some 0, m.list.length + 1, 14), (1, some 1, m.found.length, 2), (2, some 2304, 0, 1)] [(2, 2), (4, 4), (5, 5)] (by simp [Monitor.cells, fsl, List.replicate, hL, hR, assoc_v, iV])) ?_
          clear hL hR ht
          intro i hi
          have hmin : min i R.length = i := by omega
          simp [Monitor.cells, fsl]
          refine goTest_dec (fun hlt => ?_) (fun hge => ?_)
          · have hs2 : List.take (i + 1) (R.map (fV ∘ fun k => (m.records, k))) = List.take i (R.map (fV ∘ fun k => (m.records, k))) ++ [fV (m.records, nth R i)] := by rw [← List.map_take, take_nth hlt]; simp [List.map_take]
            simp [hlt, iV, hmin]
            refine ⟨by unfold roomOk; omega, by omega, Again.mk (i + 1) hlt (by omega) (Weak.of [(0, some 0, L.length, 14), (1, some 1, m.found.length + (i + 1), 2), (2, some 2, R.length, 1)] [(2, 2), (4, 4), (5, 5)] ?_)⟩
            simp [Monitor.cells, fsl, List.replicate, hs2, Nat.add_assoc, fV]
          · obtain rfl : i = R.length := by omega
            rw [← hRR, hT]
            simp
            exact Ends.mk [] [] (by simp [List.take_of_length_le])
      · have e5 : rl ≠ [] := by intro e; subst e; simp at q5
        rw [if_pos e5] at ht
        simp
        obtain ⟨L, hL⟩ : ∃ L : List Assoc, L = m.list := ⟨_, rfl⟩
        obtain ⟨R, hR⟩ : ∃ R : List Int, R = rl := ⟨_, rfl⟩
        have hT : T = (L, R) := by rw [hL, hR]; exact ht
        have hrl : R.length ≤ 12 := by rw [hT] at htl; exact htl
        refine go_loop (fun i : Nat => { env := [(2, .ptr 2 0), (4, .ptr 4 0), (5, .ptr 5 0), (190, .sl (some 2) 1 (R.map iV)), (191, .int .i64 (R.length : Nat)), (192, .int .i64 (i : Nat))], loc := [], box := [(2, m.cells), (4, List.replicate 3 .undef), (5, [.int .i64 (m.records + 1), .sl (some 0) 14 (L.map Assoc.v), .sl (some 1) 2 ((m.found ++ (R.take i).map fun k => (m.records, k)).map fV)])], stat := [(0, some (.own L.length 14)), (1, some (.own (m.found.length + i) 2)), (2, some (.own R.length 1))] }) (fun i => i ≤ R.length) (fun i => R.length - i) 0 (by omega) (Weak.of [(0, some 0, m.list.length, 14), (1, some 1, m.found.length, 2), (2, some 2304, rl.length, 1)] [(2, 2), (4, 4), (5, 5)] (by simp [Monitor.cells, fsl, List.replicate, hL, hR, assoc_v, iV])) ?_
        clear hL hR ht
        intro i hi
        have hmin : min i R.length = i := by omega
        simp [Monitor.cells, fsl]
        refine goTest_dec (fun hlt => ?_) (fun hge => ?_)
        · have hs2 : List.take (i + 1) (R.map (fV ∘ fun k => (m.records, k))) = List.take i (R.map (fV ∘ fun k => (m.records, k))) ++ [fV (m.records, nth R i)] := by rw [← List.map_take, take_nth hlt]; simp [List.map_take]
          simp [hlt, iV, hmin]
          refine ⟨by unfold roomOk; omega, by omega, Again.mk (i + 1) hlt (by omega) (Weak.of [(0, some 0, L.length, 14), (1, some 1, m.found.length + (i + 1), 2), (2, some 2, R.length, 1)] [(2, 2), (4, 4), (5, 5)] ?_)⟩
          simp [Monitor.cells, fsl, List.replicate, hs2, Nat.add_assoc, fV]
        · obtain rfl : i = R.length := by omega
          rw [← hRR, hT]
          simp
          exact Ends.mk [] [] (by simp [List.take_of_length_le])
  · subst h1
    have hfm := find_at hok h2 h3
    have hres := restart_iff (l := m.list) hp k
    have hrb := restart_begin (l := m.list) (i := k) hp
    have hpr := pack_restart (l := m.list) (i := k) hp hl hfm
    rw [hfm] at hpk
    simp only at hpk
    have hpk2 : restartS m.list p k = false → T = (m.list.set k (stepS (nth m.list k) p).1, (stepS (nth m.list k) p).2) := by
      intro h
      rw [ht, hpk, if_neg (by simp [h])]
    have hpk1 : restartS m.list p k = true → T = (m.list.eraseIdx k ++ [(stepS (newA p.src p.dst) p).1], []) := by
      intro h
      rw [ht, hpr h]
    clear hpk hpr ht h3
    have a1 := impl_AssocStep_own (nth m.list k) p (hm.each _ (nth_mem h2)) (by omega)
    have hln := stepS_len (nth m.list k) p
    have hbo := (packet_ok.1 hp).1 _ (nth_mem h0)
    have hcb : (nth p.chunks 0).body.length ≤ 60 := by simp only [Chunk.ok, Bool.and_eq_true, decide_eq_true_eq] at hbo; exact hbo.2
    have ig := impl_InitGet_ok (nth p.chunks 0) (by omega)
    have hel := erase_len h2
    simp only [packet_v, assoc_v, chunk_v, isl] at a1 ig f1
    have hset := fun y : Assoc => setEl_assoc (y := y) h2
    generalize stepS (nth m.list k) p = r at *
    obtain ⟨y, rl⟩ := r
    generalize stepS (newA p.src p.dst) p = r0 at *
    obtain ⟨y0, rl0⟩ := r0
    simp only at a1 hln f1 hrb hpk1 hpk2
    simp [h2, h0, chunk_v, assoc_v]
    cases d1 : decide ((nth m.list k).state = 7)
    all_goals (try (have hh := of_decide_eq_true d1; simp; cases d2 : decide (p.tag = 0)))
    all_goals (try (have hh := of_decide_eq_true d2; simp; cases d3 : decide (p.chunks.length = 1)))
    all_goals (try (have hh := of_decide_eq_true d3; simp [h0, chunk_v]; cases d4 : decide ((nth p.chunks 0).kind = 1)))
    all_goals (try (have hh := of_decide_eq_true d4; simp [h0, chunk_v]; refine goCall_eq ig ?_ ?_; (· cases getHello (nth p.chunks 0) <;> simp [optV, zHello, hi_v]); cases d5 : getHello (nth p.chunks 0)))
    rotate_right
    · rename_i hx
      have hrs : restartS m.list p k = true := by rw [hres]; simp [d1, d2, d3, d4, d5]
      have ht := hpk1 hrs
      obtain ⟨-, e0⟩ := hrb hrs
      subst e0
      have hmk : min k m.list.length = k := by omega
      have her : (m.list.eraseIdx k).map Assoc.v = List.take k (m.list.map Assoc.v) ++ List.drop (k + 1) (m.list.map Assoc.v) := by rw [List.eraseIdx_eq_take_drop_succ]; simp [List.map_take, List.map_drop]
      simp [optV, hi_v, hmk, etk, h0, chunk_v, d4]
      refine ⟨by omega, by omega, ⟨by omega, by omega⟩, ⟨fun z hz => ?_, by unfold roomOk; omega⟩, ?_⟩
      · obtain ⟨x, _, rfl⟩ := List.mem_map.1 (List.mem_of_mem_drop hz); rfl
      refine goCall_gen [] [] [] [] none f1 (by simp) ?_
      simp
      refine goTest_dec (fun q6 => ?_) (fun q6 => ?_)
      · exfalso; omega
      simp
      refine ⟨by unfold roomOk; omega, ?_⟩
      obtain ⟨L, hL⟩ : ∃ L : List Assoc, L = m.list.eraseIdx k ++ [y0] := ⟨_, rfl⟩
      obtain ⟨R, hR⟩ : ∃ R : List Int, R = [] := ⟨_, rfl⟩
      have hT : T = (L, R) := by rw [hL, hR]; exact ht
      have e1 : L.map Assoc.v = (List.take k (m.list.map Assoc.v) ++ List.drop (k + 1) (m.list.map Assoc.v)) ++ [y0.v] := by rw [hL, List.map_append, her]; rfl
      have e2 : L.length = k + (m.list.length - (k + 1)) + 1 := by rw [hL]; simp [hel]; omega
      have hrl : R.length ≤ 12 := by rw [hT] at htl; exact htl
      refine go_loop (fun i : Nat => { env := [(2, .ptr 2 0), (4, .ptr 4 0), (5, .ptr 5 0), (190, .sl (some 2) 1 (R.map iV)), (191, .int .i64 (R.length : Nat)), (192, .int .i64 (i : Nat))], loc := [], box := [(2, m.cells), (4, List.replicate 3 .undef), (5, [.int .i64 (m.records + 1), .sl (some 0) 14 (L.map Assoc.v), .sl (some 1) 2 ((m.found ++ (R.take i).map fun k => (m.records, k)).map fV)])], stat := [(0, some (.own L.length 14)), (1, some (.own (m.found.length + i) 2)), (2, some (.own R.length 1))] }) (fun i => i ≤ R.length) (fun i => R.length - i) 0 (by omega) (Weak.of [(0, some 2144, k + (m.list.length - (k + 1)) + 1, 14), (1, some 1, m.found.length, 2), (2, some 2304, 0, 1)] [(2, 2), (4, 4), (5, 5)] (by simp [Monitor.cells, fsl, List.replicate, e1, e2, hR, assoc_v, iV, hmk])) ?_
      clear hL hR ht e1 e2
      intro i hi
      have hmin : min i R.length = i := by omega
      simp [Monitor.cells, fsl]
      refine goTest_dec (fun hlt => ?_) (fun hge => ?_)
      · have hs2 : List.take (i + 1) (R.map (fV ∘ fun k => (m.records, k))) = List.take i (R.map (fV ∘ fun k => (m.records, k))) ++ [fV (m.records, nth R i)] := by rw [← List.map_take, take_nth hlt]; simp [List.map_take]
        simp [hlt, iV, hmin]
        refine ⟨by unfold roomOk; omega, by omega, Again.mk (i + 1) hlt (by omega) (Weak.of [(0, some 0, L.length, 14), (1, some 1, m.found.length + (i + 1), 2), (2, some 2, R.length, 1)] [(2, 2), (4, 4), (5, 5)] ?_)⟩
        simp [Monitor.cells, fsl, List.replicate, hs2, Nat.add_assoc, fV]
      · obtain rfl : i = R.length := by omega
        rw [← hRR, hT]
        simp
        exact Ends.mk [] [] (by simp [List.take_of_length_le])
    all_goals (have hrs : restartS m.list p k = false := by rw [hres]; simp [*])
    all_goals (have ht := hpk2 hrs)
    all_goals
      simp [optV, hi_v, h2, assoc_v]
      refine goDCall_eq a1 (by simp) (by simp) ?_
      simp [h2]
      refine goDStep_eld 5 1 9000 rfl rfl rfl (by simp [h2]) (by simp) ?_
      simp [hset]
      obtain ⟨L, hL⟩ : ∃ L : List Assoc, L = m.list.set k y := ⟨_, rfl⟩
      obtain ⟨R, hR⟩ : ∃ R : List Int, R = rl := ⟨_, rfl⟩
      have hT : T = (L, R) := by rw [hL, hR]; exact ht
      have hrl : R.length ≤ 12 := by rw [hT] at htl; exact htl
      refine go_loop (fun i : Nat => { env := [(2, .ptr 2 0), (4, .ptr 4 0), (5, .ptr 5 0), (190, .sl (some 2) 1 (R.map iV)), (191, .int .i64 (R.length : Nat)), (192, .int .i64 (i : Nat))], loc := [], box := [(2, m.cells), (4, List.replicate 3 .undef), (5, [.int .i64 (m.records + 1), .sl (some 0) 14 (L.map Assoc.v), .sl (some 1) 2 ((m.found ++ (R.take i).map fun k => (m.records, k)).map fV)])], stat := [(0, some (.own L.length 14)), (1, some (.own (m.found.length + i) 2)), (2, some (.own R.length 1))] }) (fun i => i ≤ R.length) (fun i => R.length - i) 0 (by omega) (Weak.of [(0, some 9000, m.list.length, 14), (1, some 1, m.found.length, 2), (2, some 2816, rl.length, 1)] [(2, 2), (4, 4), (5, 5)] (by simp [Monitor.cells, fsl, List.replicate, hL, hR, assoc_v, iV])) ?_
      clear hL hR ht
      intro i hi
      have hmin : min i R.length = i := by omega
      simp [Monitor.cells, fsl]
      refine goTest_dec (fun hlt => ?_) (fun hge => ?_)
      · have hs2 : List.take (i + 1) (R.map (fV ∘ fun k => (m.records, k))) = List.take i (R.map (fV ∘ fun k => (m.records, k))) ++ [fV (m.records, nth R i)] := by rw [← List.map_take, take_nth hlt]; simp [List.map_take]
        simp [hlt, iV, hmin]
        refine ⟨by unfold roomOk; omega, by omega, Again.mk (i + 1) hlt (by omega) (Weak.of [(0, some 0, L.length, 14), (1, some 1, m.found.length + (i + 1), 2), (2, some 2, R.length, 1)] [(2, 2), (4, 4), (5, 5)] ?_)⟩
        simp [Monitor.cells, fsl, List.replicate, hs2, Nat.add_assoc, fV]
      · obtain rfl : i = R.length := by omega
        rw [← hRR, hT]
        simp
        exact Ends.mk [] [] (by simp [List.take_of_length_le])
end
section
set_option maxRecDepth 200000
set_option maxHeartbeats 16000000
attribute [-simp] List.getD_eq_getElem?_getD
structure Monitor.dr (m : Monitor) : Prop where
  recs : -1 ≤ m.records ∧ m.records ≤ 61
  len : m.list.length ≤ 10
  each : ∀ x ∈ m.list, x.dr
  found : m.found.length ≤ 3000
theorem Monitor.dr.bd {m : Monitor} (h : m.dr) : m.bd := ⟨by have := h.recs; omega, by have := h.len; omega, fun x hx => (h.each x hx).bd, by have := h.found; omega⟩
theorem Monitor.sm.dr {m : Monitor} (h : m.sm 2000) : m.dr := ⟨by have := h.recs; omega, by have := h.len; omega, fun x hx => Assoc.ok_dr (h.each x hx), by have := h.found; omega⟩
inductive MdR (src : List UInt8) (a k : Int) : V → List (List V) → Prop
  | mk (m : Monitor) (b : Int) (h : m.dr) (hb : a ≤ b ∧ b ≤ a + k) : MdR src a k m.v [[bsl src, .int .i64 b]]
inductive MsR : V → List (List V) → Prop
  | mk (m : Monitor) (s : List UInt8) (hm : m.dr) (hs : s.length ≤ 1000) : MsR (.tup [m.v, .str s]) []
end
section
set_option maxRecDepth 200000
set_option maxHeartbeats 8000000
attribute [-simp] List.getD_eq_getElem?_getD
theorem MonOk.bd {m : Monitor} (h : MonOk m) (hf : m.found.length ≤ 10000) : m.bd := ⟨by have := h.recs; omega, by have := h.len; omega, fun x hx => Assoc.ok_bd (h.each x hx).1, by omega⟩
end
section
set_option maxRecDepth 200000
set_option maxHeartbeats 16000000
attribute [-simp] List.getD_eq_getElem?_getD
theorem impl_CaptureValid_ok (l : List Tap) (hl : l.length ≤ 1000000) : Fn Tryz.prog fn_impl_CaptureValid [rsl l] [] (.bool (capOk l)) [] := by
  refine Fn.of_go ln_impl_CaptureValid rfl ?_
  simp [ac_impl_CaptureValid, rsl]
  refine goTest_dec (fun q0 => ?_) (fun q0 => ?_)
  · have e : capOk l = false := by simp [capOk]; intro _; omega
    simp
    exact Ends.mk [] [] (by simp [e])
  simp
  refine go_loop (fun x : Nat × Int => { env := [(3, .int .i64 x.2), (9, rsl l), (10, .int .i64 (l.length : Nat)), (11, .int .i64 (x.1 : Nat))], loc := [], box := [], stat := [] }) (fun x => x.1 ≤ l.length ∧ timesOk 0 l = timesOk x.2 (l.drop x.1)) (fun x => l.length - x.1) (0, 0) ⟨by simp, by simp⟩ (Weak.of [] [] (by simp [rsl])) ?_
  rintro ⟨i, low⟩ ⟨hi, ht⟩
  simp only at hi ht
  simp [rsl]
  refine goTest_dec (fun hlt => ?_) (fun hge => ?_)
  · have hd : l.drop i = nth l i :: l.drop (i + 1) := by rw [nth_eq hlt]; exact List.drop_eq_getElem_cons hlt
    rw [hd] at ht
    simp only [timesOk] at ht
    simp [hlt, rec_v]
    have no : ¬ (low ≤ (nth l i).time ∧ (nth l i).time ≤ 4294967295 ∧ (nth l i).text.length ≤ 120) → capOk l = false := by
      intro h
      have : timesOk 0 l = false := by
        rw [ht]
        simp
        intros; omega
      simp [capOk, this]
    cases d1 : decide ((nth l i).time < low)
    rotate_left
    · simp
      exact Ends.mk [] [] (by simp [no (by have := of_decide_eq_true d1; omega)])
    simp
    cases d2 : decide (4294967295 < (nth l i).time)
    rotate_left
    · simp
      exact Ends.mk [] [] (by simp [no (by have := of_decide_eq_true d2; omega)])
    simp
    cases d3 : decide (120 < (nth l i).text.length)
    rotate_left
    · simp
      exact Ends.mk [] [] (by simp [no (by have := of_decide_eq_true d3; omega)])
    have d1 := of_decide_eq_false d1
    have d2 := of_decide_eq_false d2
    have d3 := of_decide_eq_false d3
    have e1 : decide (low ≤ (nth l i).time) = true := decide_eq_true (by omega)
    have e2 : decide ((nth l i).time ≤ 4294967295) = true := decide_eq_true (by omega)
    have e3 : decide ((nth l i).text.length ≤ 120) = true := decide_eq_true (by omega)
    rw [e1, e2, e3] at ht
    simp
    exact ⟨by omega, Again.mk (i + 1, (nth l i).time) ⟨by simp; omega, by simpa using ht⟩ (by simp; omega) (Weak.of [] [] (by simp [rsl]))⟩
  · obtain rfl : i = l.length := by omega
    simp [timesOk] at ht
    have e : capOk l = true := by simp [capOk, ht]; omega
    simp
    exact Ends.mk [] [] (by simp [e])
theorem fold_ok {l : List Tap} (h : capOk l = true) {i : Nat} (hi : i ≤ l.length) : MonOk (foldM zMonitor (l.take i)) ∧ (foldM zMonitor (l.take i)).records = i := by
  have h1 := run_ok (capOk_take h i)
  have h2 : runS (l.take i) = foldM zMonitor (l.take i) := by unfold runS; rw [if_pos (capOk_take h i)]
  rw [h2] at h1
  refine ⟨h1.1, ?_⟩
  rw [h1.2]
  simp; omega
theorem mem_set {α : Type} {l : List α} {i : Nat} {x y : α} (h : y ∈ l.set i x) : y ∈ l ∨ y = x := List.mem_or_eq_of_mem_set h
structure capD (l : List Tap) (n t : Nat) : Prop where
  len : l.length ≤ n
  texts : ∀ r ∈ l, r.text.length ≤ t
theorem capD.set {l : List Tap} {n t : Nat} (h : capD l n t) (j : Nat) {r : Tap} (hr : r.text.length ≤ t) : capD (l.set j r) n t :=
  ⟨by simp; exact h.len, fun q hq => by
    rcases mem_set hq with a | a
    · exact h.texts q a
    · rw [a]; exact hr⟩
inductive CpR (src : List UInt8) (a k : Int) : V → List (List V) → Prop
  | mk (l : List Tap) (b : Int) (h : capD l 100 1000) (hb : a ≤ b ∧ b ≤ a + k) : CpR src a k (rsl l) [[bsl src, .int .i64 b]]
inductive CrR : V → List (List V) → Prop
  | mk (l : List Tap) (h : capD l 100 1000) : CrR (rsl l) []
end
section
set_option maxRecDepth 200000
set_option maxHeartbeats 8000000
attribute [-simp] List.getD_eq_getElem?_getD
theorem impl_DataPut_ok (d : Part) : Fn Tryz.prog fn_impl_DataPut [d.v] [] (optV zChunk.v Chunk.v (putPart d)) [] := by
  refine Fn.of_go ln_impl_DataPut rfl ?_
  have fd := dataOk_ok d
  simp only [Part.v, Part.cells] at fd
  simp [ac_impl_DataPut, Part.v, Part.cells]
  refine goCall_eq fd (by simp) ?_
  simp
  cases h : d.ok with
  | false =>
    simp
    exact Ends.mk [] [] (by simp [putPart, h, optV, zChunk_v])
  | true =>
    obtain ⟨p1, p2, p3, p4, p5⟩ := part_facts h
    obtain ⟨a, ha, ha2⟩ := inS_nat p1
    obtain ⟨b, hb, hb2⟩ := inS_nat p2
    obtain ⟨c, hc, hc2⟩ := inS_nat p3
    have w2 := words_ok [a, b, c] (by simp; omega) (by simp)
    simp [← ha, ← hb, ← hc] at w2
    have hw : wordsS [a, b, c] = put16 d.tsn ++ (put16 d.stream ++ put16 d.ssn) := by simp [wordsS, ha, hb, hc]
    rw [hw] at w2
    have hput : putPart d = some ⟨0, (if d.last = true then 1 else 0) + (if d.first = true then 2 else 0) + (if d.loose = true then 4 else 0), put16 d.tsn ++ put16 d.stream ++ put16 d.ssn ++ d.text⟩ := by unfold putPart; rw [if_pos h]
    simp
    cases e1 : d.last <;> cases e2 : d.first <;> cases e3 : d.loose <;> simp [e1, e2, e3]
    all_goals
      refine goDCall_gen [] [] [448] [] none w2 (by simp) (by simp) ?_
      simp
      exact ⟨by simp [put16_len]; omega, Ends.mk [] [] (by simp [hput, e1, e2, e3, optV, Chunk.v, Chunk.cells])⟩
end
end Go.Proofs.YtjkbbdmkgealfaaGreatDoor
