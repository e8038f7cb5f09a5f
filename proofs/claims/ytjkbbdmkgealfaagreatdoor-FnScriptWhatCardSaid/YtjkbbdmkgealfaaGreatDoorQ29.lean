/-
  Talks, by the reference: all packets, records.
  Talks, by the reference: records.
  Talks drawn.
  Monitors, by the reference.
  Steps of monitors, by the reference.
  Steps and runs of monitors, by the reference.
  Monitors and associations drawn.
  Sides drawn; wrong associations.
  Parts and chunks that a side may send next, drawn.
  Wrong associations, chunks and packets drawn.
  Packets for an association, drawn.
-/
import Derived.Test.YtjkbbdmkgealfaaGreatDoorQ28
import Derived.Test.YtjkbbdmkgealfaaGreatDoorQ27
namespace Go.Proofs.YtjkbbdmkgealfaaGreatDoor
set_option linter.all false
section
set_option maxRecDepth 200000
set_option maxHeartbeats 8000000
attribute [-simp] List.getD_eq_getElem?_getD
theorem spec_TalkPackets_ok (t : Talk) (hb : t.bd) : Fn Tryz.prog fn_spec_TalkPackets [t.v] [] (.sl none 4 ((packetsT t).map Packet.v)) [] := by
  refine Fn.of_go ln_spec_TalkPackets rfl ?_
  have v1 := spec_TalkValid_ok t hb
  have hP : packetsT t = if t.ok then saysF t t.says (partsT t false) (partsT t true) (helloT t) ++ [oneT t false 7, oneT t true 8, oneT t false 14] else [] := rfl
  generalize packetsT t = P at *
  have hh := l41Hello_ok t
  have hpa := l41Parts_ok t false
  have hpb := l41Parts_ok t true
  simp only [talk_v, psl] at v1 hh hpa hpb
  simp [ac_spec_TalkPackets, talk_v]
  refine goCall_eq v1 (by simp) ?_
  cases hok : t.ok
  · rw [hok, if_neg (by simp)] at hP
    subst hP
    simp
    exact Ends.mk [] [] (by simp)
  rw [hok, if_pos rfl] at hP
  have hc := talk_c hok
  have hz := hc.size
  obtain ⟨z, hze⟩ := Int.eq_ofNat_of_zero_le (show 0 ≤ t.size by omega)
  have hz1 : 1 ≤ z ∧ z ≤ 20 := by omega
  have hsz : t.size.toNat = z := by omega
  have hpa := hpa hc
  have hpb := hpb hc
  have la := parts_len hz.1 false
  have lb := parts_len hz.1 true
  have ma := hc.ma
  have mb := hc.mb
  have hsl := hc.says
  have hlh : (helloT t).length = 4 := rfl
  rw [hsz] at la lb ma mb
  obtain ⟨F, hF⟩ : ∃ F, saysF t t.says (partsT t false) (partsT t true) (helloT t) = F := ⟨_, rfl⟩
  rw [hF] at hP
  generalize hA : partsT t false = A0 at *
  generalize hB : partsT t true = B0 at *
  generalize hH : helloT t = H0 at *
  simp
  refine goCall_eq hh (by simp) ?_
  simp
  refine goCall_eq hpa (by simp) ?_
  simp
  refine goCall_eq hpb (by simp) ?_
  simp
  refine go_loop (fun x : Nat × List Part × List Part × List Packet => { env := [(1, .ptr 1 0), (3, .sl (some 0) 4 (x.2.2.2.map Packet.v)), (4, .sl none 7 (x.2.1.map Part.v)), (5, .sl none 7 (x.2.2.1.map Part.v)), (6, .int .i64 (x.1 : Nat))], loc := [], box := [(1, t.cells)], stat := [(0, some (.own x.2.2.2.length 4))] })
    (fun x => x.1 ≤ t.says.length ∧ saysF t (t.says.drop x.1) x.2.1 x.2.2.1 x.2.2.2 = F ∧ manyL z false (t.says.drop x.1) ≤ x.2.1.length ∧ manyL z true (t.says.drop x.1) ≤ x.2.2.1.length ∧ x.2.2.2.length + 2 * (manyL z false (t.says.drop x.1) + manyL z true (t.says.drop x.1)) ≤ 52) (fun x => t.says.length - x.1) (0, A0, B0, H0)
    ⟨by simp, by simpa using hF, by simp; omega, by simp; omega, by simp; omega⟩ (Weak.of [(0, some 304, 4, 4)] [(1, 1)] (by simp [Talk.cells, Hello.cells, hlh])) ?_
  rintro ⟨i, a, b, out⟩ ⟨hi, hS, h1, h2, h3⟩
  simp only at hi hS h1 h2 h3
  simp [Talk.cells, Hello.cells]
  refine goTest_dec (fun hlt => ?_) (fun hge => ?_)
  · have hd := drop_nth hlt
    rw [manyL_drop hlt] at h1 h2 h3
    rw [hd] at hS
    have htx := hc.text _ (nth_mem hlt)
    have g1 := l41Many_ok (nth t.says i).text z hz1.1 (by omega) (by omega)
    rw [manyL_drop hlt] at h3
    simp [hlt, say_v, hze]
    generalize nth t.says i = x at *
    unfold saysF at hS
    rw [hsz] at hS
    refine goCall_eq g1 (by simp) ?_
    cases hbb : x.byB
    · simp [hbb] at hS h1 h2 h3
      obtain ⟨pr, hpr⟩ : ∃ pr, sendF t false (manyN x.text.length z) a out = pr := ⟨_, rfl⟩
      rw [hpr] at hS
      have hmn := many_le (n := x.text.length) hz1.1
      simp
      refine go_loop (fun y : Nat × List Part × List Packet => { env := [(1, .ptr 1 0), (3, .sl (some 0) 4 (y.2.2.map Packet.v)), (4, .sl none 7 (y.2.1.map Part.v)), (5, .sl none 7 (b.map Part.v)), (6, .int .i64 (i : Nat)), (7, .bool false), (8, .int .i64 (y.1 : Nat))], loc := [], box := [(1, t.cells)], stat := [(0, some (.own y.2.2.length 4))] })
        (fun y => sendF t false y.1 y.2.1 y.2.2 = pr ∧ y.1 + manyL z false (t.says.drop (i + 1)) ≤ y.2.1.length ∧ y.2.2.length + 2 * y.1 + 2 * (manyL z false (t.says.drop (i + 1)) + manyL z true (t.says.drop (i + 1))) ≤ 52) (fun y => y.1) (manyN x.text.length z, a, out)
        ⟨hpr, by simp; omega, by simp; omega⟩ (Weak.of [(0, some 0, out.length, 4)] [(1, 1)] (by simp [Talk.cells, Hello.cells, hze])) ?_
      rintro ⟨k, m, o⟩ ⟨hk1, hk2, hk3⟩
      simp only at hk1 hk2 hk3
      simp [Talk.cells, Hello.cells]
      refine goTest_dec (fun hk => ?_) (fun hk => ?_)
      · obtain ⟨k, rfl⟩ : ∃ j, k = j + 1 := ⟨k - 1, by omega⟩
        have hm : 0 < m.length := by omega
        have htl : List.take m.length (m.map Part.v) = m.map Part.v := List.take_of_length_le (by simp)
        have w1 := spec_DataPut_ok (nth m 0)
        have w2 := spec_SackPut_ok ⟨(nth m 0).tsn, []⟩ (by simp)
        rw [opt_get] at w1 w2
        have f1 := l41Packet_ok t false [dataC (nth m 0)]
        have f2 := l41Packet_ok t true [sackC (nth m 0)]
        have e1 : (putPart (nth m 0)).getD zChunk = dataC (nth m 0) := rfl
        have e2 : (putSack ⟨(nth m 0).tsn, []⟩).getD zChunk = sackC (nth m 0) := rfl
        rw [e1] at w1
        rw [e2] at w2
        unfold sendF at hk1
        simp only [Bool.not_false, Bool.not_true] at hk1
        generalize dataC (nth m 0) = c1 at *
        generalize sackC (nth m 0) = c2 at *
        simp only [packT_v, talk_v, chunk_v, pt_v, sk_v, if_true, Bool.false_eq_true, if_false] at w1 w2 f1 f2
        simp [hm, htl, pt_v]
        refine ⟨by omega, ?_⟩
        refine goCall_eq w1 (by simp) ?_
        simp
        refine goCall_gen [] [] [] [] none w2 (by simp) ?_
        simp
        refine goDCall_gen [] [] [1248] [] none f1 (by simp [chunk_v]) (by simp) ?_
        simp
        refine goDCall_gen [] [] [1344] [] none f2 (by simp [chunk_v]) (by simp) ?_
        simp
        repeat' (first | (refine And.intro (by omega) ?_) | (refine And.intro (by unfold roomOk; omega) ?_) | fail)
        refine Again.mk (k, m.drop 1, o ++ [packT t false [c1], packT t true [c2]]) ⟨hk1, by simp; omega, by simp; omega⟩ (by simp) (Weak.of [(0, some 0, o.length + 2, 4)] [(1, 1)] ?_)
        simp [Talk.cells, Hello.cells, packT_v, chunk_v, hze]
      · obtain rfl : k = 0 := by omega
        have e0 : pr = (m, o) := hk1.symm
        subst e0
        simp
        simp at hk2 hk3
        exact ⟨by omega, Again.mk (i + 1, m, b, o) ⟨by simp; omega, hS, by simp; omega, by simp; omega, by simp; omega⟩ (by simp; omega) (Weak.of [(0, some 0, o.length, 4)] [(1, 1)] (by simp [Talk.cells, Hello.cells, hze]))⟩
    · simp [hbb] at hS h1 h2 h3
      obtain ⟨pr, hpr⟩ : ∃ pr, sendF t true (manyN x.text.length z) b out = pr := ⟨_, rfl⟩
      rw [hpr] at hS
      have hmn := many_le (n := x.text.length) hz1.1
      simp
      refine go_loop (fun y : Nat × List Part × List Packet => { env := [(1, .ptr 1 0), (3, .sl (some 0) 4 (y.2.2.map Packet.v)), (4, .sl none 7 (a.map Part.v)), (5, .sl none 7 (y.2.1.map Part.v)), (6, .int .i64 (i : Nat)), (7, .bool true), (8, .int .i64 (y.1 : Nat))], loc := [], box := [(1, t.cells)], stat := [(0, some (.own y.2.2.length 4))] })
        (fun y => sendF t true y.1 y.2.1 y.2.2 = pr ∧ y.1 + manyL z true (t.says.drop (i + 1)) ≤ y.2.1.length ∧ y.2.2.length + 2 * y.1 + 2 * (manyL z false (t.says.drop (i + 1)) + manyL z true (t.says.drop (i + 1))) ≤ 52) (fun y => y.1) (manyN x.text.length z, b, out)
        ⟨hpr, by simp; omega, by simp; omega⟩ (Weak.of [(0, some 0, out.length, 4)] [(1, 1)] (by simp [Talk.cells, Hello.cells, hze])) ?_
      rintro ⟨k, m, o⟩ ⟨hk1, hk2, hk3⟩
      simp only at hk1 hk2 hk3
      simp [Talk.cells, Hello.cells]
      refine goTest_dec (fun hk => ?_) (fun hk => ?_)
      · obtain ⟨k, rfl⟩ : ∃ j, k = j + 1 := ⟨k - 1, by omega⟩
        have hm : 0 < m.length := by omega
        have htl : List.take m.length (m.map Part.v) = m.map Part.v := List.take_of_length_le (by simp)
        have w1 := spec_DataPut_ok (nth m 0)
        have w2 := spec_SackPut_ok ⟨(nth m 0).tsn, []⟩ (by simp)
        rw [opt_get] at w1 w2
        have f1 := l41Packet_ok t true [dataC (nth m 0)]
        have f2 := l41Packet_ok t false [sackC (nth m 0)]
        have e1 : (putPart (nth m 0)).getD zChunk = dataC (nth m 0) := rfl
        have e2 : (putSack ⟨(nth m 0).tsn, []⟩).getD zChunk = sackC (nth m 0) := rfl
        rw [e1] at w1
        rw [e2] at w2
        unfold sendF at hk1
        simp only [Bool.not_false, Bool.not_true] at hk1
        generalize dataC (nth m 0) = c1 at *
        generalize sackC (nth m 0) = c2 at *
        simp only [packT_v, talk_v, chunk_v, pt_v, sk_v, if_true, Bool.false_eq_true, if_false] at w1 w2 f1 f2
        simp [hm, htl, pt_v]
        refine ⟨by omega, ?_⟩
        refine goCall_eq w1 (by simp) ?_
        simp
        refine goCall_gen [] [] [] [] none w2 (by simp) ?_
        simp
        refine goDCall_gen [] [] [1248] [] none f1 (by simp [chunk_v]) (by simp) ?_
        simp
        refine goDCall_gen [] [] [1344] [] none f2 (by simp [chunk_v]) (by simp) ?_
        simp
        repeat' (first | (refine And.intro (by omega) ?_) | (refine And.intro (by unfold roomOk; omega) ?_) | fail)
        refine Again.mk (k, m.drop 1, o ++ [packT t true [c1], packT t false [c2]]) ⟨hk1, by simp; omega, by simp; omega⟩ (by simp) (Weak.of [(0, some 0, o.length + 2, 4)] [(1, 1)] ?_)
        simp [Talk.cells, Hello.cells, packT_v, chunk_v, hze]
      · obtain rfl : k = 0 := by omega
        have e0 : pr = (m, o) := hk1.symm
        subst e0
        simp
        simp at hk2 hk3
        exact ⟨by omega, Again.mk (i + 1, a, m, o) ⟨by simp; omega, hS, by simp; omega, by simp; omega, by simp; omega⟩ (by simp; omega) (Weak.of [(0, some 0, o.length, 4)] [(1, 1)] (by simp [Talk.cells, Hello.cells, hze]))⟩
  · obtain rfl : i = t.says.length := by omega
    simp [saysF, manyL] at hS h3
    subst hS
    subst hP
    have o1 := l41One_ok t false 7
    have o2 := l41One_ok t true 8
    have o3 := l41One_ok t false 14
    rw [oneT_v] at o1 o2 o3
    simp only [talk_v] at o1 o2 o3
    simp
    refine goDCall_eq o1 (by simp) (by simp) ?_
    simp
    refine goDCall_eq o2 (by simp) (by simp) ?_
    simp
    refine goDCall_eq o3 (by simp) (by simp) ?_
    simp
    repeat' (first | (refine And.intro (by omega) ?_) | (refine And.intro (by unfold roomOk; omega) ?_) | fail)
    exact Ends.mk [] [] (by simp [oneT_v])
end
section
set_option maxRecDepth 200000
set_option maxHeartbeats 8000000
attribute [-simp] List.getD_eq_getElem?_getD
theorem spec_TalkRecords_own (t : Talk) (n : Int) (hb : t.bd) (hn : -1000000000000 ≤ n ∧ n ≤ 1000000000000) : Fn Tryz.prog fn_spec_TalkRecords [t.v, .int .i64 n] [] (.sl (some 0) 2 ((recordsT t n).map Tap.v)) [] := by
  refine Fn.of_go ln_spec_TalkRecords rfl ?_
  have p1 := spec_TalkPackets_ok t hb
  obtain ⟨hsh, hlen⟩ := packets_short t
  have hR : recordsT t n = if 0 ≤ n ∧ capOk (recsF n (packetsT t)) = true then recsF n (packetsT t) else [] := rfl
  generalize recordsT t n = R at *
  generalize packetsT t = P at *
  simp only [talk_v] at p1
  simp [ac_spec_TalkRecords, talk_v]
  refine goCall_eq p1 (by simp) ?_
  simp
  refine go_loop (fun i : Nat => { env := [(1, .int .i64 n), (5, .sl (some 0) 2 ((recsF n (P.take i)).map Tap.v)), (6, .sl none 4 (P.map Packet.v)), (7, .int .i64 (i : Nat))], loc := [], box := [], stat := [(0, some (.own i 2))] }) (fun i => i ≤ P.length) (fun i => P.length - i) 0 (by omega) (Weak.of [(0, some 128, 0, 2)] [] (by simp [recsF])) ?_
  intro i hi
  simp
  refine goTest_dec (fun hlt => ?_) (fun hge => ?_)
  · have hs := take_nth hlt
    have hmin : min i P.length = i := by omega
    have hrs : recsF n (P.take (i + 1)) = recsF n (P.take i) ++ [⟨n + i, textP (nth P i)⟩] := by rw [hs, recsF_snoc]; simp [hmin]
    have q1 := spec_PacketPut_ok (nth P i) (by have := hsh _ (nth_mem hlt); unfold Short at this; omega)
    have hrl : (recsF n (P.take i)).length = i := by rw [recsF_len]; simp [hmin]
    simp only [packet_v] at q1
    simp [hlt, packet_v]
    refine ⟨by omega, ?_⟩
    refine goCall_eq q1 (by simp) ?_
    simp [hrl]
    repeat' (first | (refine And.intro (by omega) ?_) | (refine And.intro (by unfold roomOk; omega) ?_) | fail)
    exact Again.mk (i + 1) hlt (by omega) (Weak.of [(0, some 0, i + 1, 2)] [] (by simp [hrs, rec_v]))
  · obtain rfl : i = P.length := by omega
    have hrl : (recsF n P).length = P.length := recsF_len P n
    have v1 := spec_CaptureValid_ok (recsF n P) (by omega)
    simp only [rsl] at v1
    simp
    refine goTest_dec (fun q => ?_) (fun q => ?_)
    · rw [if_neg (by omega)] at hR
      subst hR
      simp [q]
      exact Ends.mk [(0, some 576, 0, 2)] [] (by simp)
    · simp [q]
      refine goCall_gen [] [] [] [0] none v1 (by simp) ?_
      cases hc : capOk (recsF n P)
      · rw [if_neg (by simp [hc])] at hR
        subst hR
        simp
        exact Ends.mk [(0, some 576, 0, 2)] [] (by simp)
      · rw [if_pos ⟨by omega, hc⟩] at hR
        subst hR
        simp
        exact Ends.mk [(0, some 0, P.length, 2)] [] (by simp [hrl])
end
section
set_option maxRecDepth 200000
set_option maxHeartbeats 8000000
attribute [-simp] List.getD_eq_getElem?_getD
inductive TkR (src : List UInt8) (a k : Int) : V → List (List V) → Prop
  | mk (t : Talk) (b : Int) (h : t.says.length ≤ 5) (ht : ∀ x ∈ t.says, x.text.length ≤ 20) (hb : a ≤ b ∧ b ≤ a + k) : TkR src a k t.v [[bsl src, .int .i64 b]]
end
section
set_option maxRecDepth 200000
set_option maxHeartbeats 8000000
attribute [-simp] List.getD_eq_getElem?_getD
theorem l32Copy_ok (m : Monitor) (hm : m.bd) : Fn Tryz.prog fn_spec_l32Copy [m.v] [] (m.own 0 1) [] := by
  refine Fn.of_go ln_spec_l32Copy rfl ?_
  have hl := hm.len
  have hf := hm.found
  simp [ac_spec_l32Copy, mon_v]
  refine ⟨⟨fun z a b _ h => by subst h; rfl, by unfold roomOk; omega⟩, ?_⟩
  refine go_loop (fun i => { env := [(1, .ptr 1 0), (2, .ptr 2 0), (3, .ptr 3 0), (4, .int .i64 (i : Nat))], loc := [], box := [(1, m.cells), (2, List.replicate 3 .undef), (3, [.int .i64 m.records, .sl (some 0) 14 ((m.list.take i).map Assoc.v), .sl (some 1) 2 (m.found.map fV)])], stat := [(0, some (.own i 14)), (1, some (.own m.found.length 2))] }) (fun i => i ≤ m.list.length) (fun i => m.list.length - i) 0 (by omega) (Weak.of [(0, some 112, 0, 14), (1, some 128, m.found.length, 2)] [(1, 1), (2, 2), (3, 3)] (by simp [Monitor.cells, fsl, List.replicate])) ?_
  intro i hi
  have hlen : (m.list.take i).length = i := by simp; omega
  simp [Monitor.cells, fsl]
  refine goTest_dec (fun hlt => ?_) (fun hge => ?_)
  · have hxb := hm.each _ (nth_mem hlt)
    have f1 := l31Copy_ok (nth m.list i) (by have := hxb.1.2; omega) (by have := hxb.2.2; omega)
    simp only [assoc_v, own_c] at f1
    have hs := take_nth hlt
    simp [hlt, assoc_v]
    refine goDCall_eq f1 (by simp) (by simp) ?_
    simp
    refine ⟨by unfold roomOk; omega, by omega, Again.mk (i + 1) hlt (by omega) (Weak.of [(0, some 0, i + 1, 14), (1, some 1, m.found.length, 2)] [(1, 1), (2, 2), (3, 3)] ?_)⟩
    have hs2 : List.take (i + 1) (m.list.map Assoc.v) = List.take i (m.list.map Assoc.v) ++ [(nth m.list i).v] := by rw [← List.map_take, hs]; simp [List.map_take]
    rw [assoc_v] at hs2
    simp [Monitor.cells, fsl, hs2]
  · obtain rfl : i = m.list.length := by omega
    simp
    have e : List.take m.list.length (List.map Assoc.v m.list) = List.map Assoc.v m.list := List.take_of_length_le (by simp)
    exact Ends.mk [(0, some 0, m.list.length, 14), (1, some 1, m.found.length, 2)] [] (by simp [Monitor.own, e])
theorem bad_list {m : Monitor} {i : Nat} (hi : i < m.list.length) (h : listAt m.list i = false) : m.ok = false := by
  have := allTo_false hi h
  simp [Monitor.ok, this]
theorem bad_found {m : Monitor} {i : Nat} (hi : i < m.found.length) (h : fsP m.records m.found i = false) : m.ok = false := by
  have : fsOk m.records m.found = false := allTo_false hi h
  simp [Monitor.ok, this]
theorem spec_MonitorValid_ok (m : Monitor) (hm : m.bd) : Fn Tryz.prog fn_spec_MonitorValid [m.v] [] (.bool m.ok) [] := by
  refine Fn.of_go ln_spec_MonitorValid rfl ?_
  have hl := hm.len
  have hf := hm.found
  have hr := hm.recs
  simp [ac_spec_MonitorValid, mon_v]
  refine go_loop (fun i => { env := [(1, .ptr 1 0), (3, .int .i64 (i : Nat))], loc := [], box := [(1, m.cells)], stat := [] }) (fun i => i ≤ m.list.length ∧ allTo (listAt m.list) i = true) (fun i => m.list.length - i) 0 ⟨by omega, rfl⟩ (Weak.of [] [(1, 1)] (by simp [Monitor.cells, fsl])) ?_
  rintro i ⟨hi, hp⟩
  simp [Monitor.cells, fsl]
  refine goTest_dec (fun hlt => ?_) (fun hge => ?_)
  · have hbad := bad_list hlt
    have f1 := spec_AssocValid_ok (nth m.list i) (hm.each _ (nth_mem hlt))
    simp only [assoc_v] at f1
    have hla : listAt m.list i = ((nth m.list i).ok && decide ((nth m.list i).state ≠ 0) && allTo (fun k => !meet (nth m.list k).ports (nth m.list i).ports) i) := rfl
    simp [hlt, assoc_v]
    refine goCall_eq f1 (by simp) ?_
    cases q1 : (nth m.list i).ok
    · simp; exact Ends.mk [] [] (by simp [hbad (by simp [hla, q1])])
    simp [hlt, assoc_v]
    refine goTest_dec (fun q2 => ?_) (fun q2 => ?_)
    · simp [q2]; exact Ends.mk [] [] (by simp [hbad (by simp [hla, q2])])
    simp
    refine go_loop (fun k => { env := [(1, .ptr 1 0), (3, .int .i64 (i : Nat)), (4, .int .i64 (k : Nat))], loc := [], box := [(1, m.cells)], stat := [] }) (fun k => k ≤ i ∧ allTo (fun k => !meet (nth m.list k).ports (nth m.list i).ports) k = true) (fun k => i - k) 0 ⟨by omega, rfl⟩ (Weak.of [] [(1, 1)] (by simp [Monitor.cells, fsl])) ?_
    rintro k ⟨hk, hpk⟩
    simp [Monitor.cells, fsl]
    refine goTest_dec (fun hkl => ?_) (fun hkg => ?_)
    · have hkk : k < m.list.length := by omega
      have f2 := l32Pair_ok (nth m.list k) (nth m.list i)
      simp only [assoc_v] at f2
      simp [hlt, hkl, hkk, assoc_v]
      refine goCall_eq f2 (by simp) ?_
      simp
      refine goTest_bool (fun q3 => ?_) (fun q3 => ?_)
      · simp; exact Ends.mk [] [] (by simp [hbad (by rw [hla, allTo_false hkl (by simp [q3])]; simp)])
      · simp
        exact ⟨by omega, Again.mk (k + 1) ⟨hkl, allTo_succ hpk (by simp [q3])⟩ (by omega) (Weak.of [] [(1, 1)] (by simp [Monitor.cells, fsl]))⟩
    · obtain rfl : k = i := by omega
      simp
      exact ⟨by omega, Again.mk (k + 1) ⟨hlt, allTo_succ hp (by rw [hla, q1, hpk]; simp [q2])⟩ (by omega) (Weak.of [] [(1, 1)] (by simp [Monitor.cells, fsl]))⟩
  · obtain rfl : i = m.list.length := by omega
    simp
    refine go_loop (fun i => { env := [(1, .ptr 1 0), (5, .int .i64 (i : Nat))], loc := [], box := [(1, m.cells)], stat := [] }) (fun i => i ≤ m.found.length ∧ allTo (fsP m.records m.found) i = true) (fun i => m.found.length - i) 0 ⟨by omega, rfl⟩ (Weak.of [] [(1, 1)] (by simp [Monitor.cells, fsl])) ?_
    rintro i ⟨hi, hpf⟩
    simp [Monitor.cells, fsl]
    refine goTest_dec (fun hlt => ?_) (fun hge => ?_)
    · have hbad := bad_found hlt
      have hlt2 : i - 1 < m.found.length := by omega
      have hfp : fsP m.records m.found i = (fOk m.records (nth m.found i) && (i == 0 || fLess (nth m.found (i - 1)) (nth m.found i))) := rfl
      simp [hlt, fV]
      refine goDCall_eq (l32Finding_ok _ _ (by omega) (by omega)) (by simp [fV]) (by simp) ?_
      simp
      refine goTest_bool (fun h1 => ?_) (fun h1 => ?_)
      · simp [h1]
        refine goTest_dec (fun h2 => ?_) (fun h2 => ?_)
        · simp [h2, hlt, hlt2, fV]
          refine ⟨by omega, by omega, ?_⟩
          refine goCall_eq (l32Less_ok _ _) (by simp [fV]) ?_
          simp
          refine goTest_bool (fun h3 => ?_) (fun h3 => ?_)
          · simp [h3]
            exact ⟨by omega, .mk (i + 1) ⟨by omega, allTo_succ hpf (by simp [fsP, h1, h3])⟩ (by omega) (Weak.of [] [(1, 1)] (by simp [Monitor.cells, fsl]))⟩
          · simp [h3]
            exact Ends.mk [] [] (by simp [hbad (by simp [fsP, h1, h3, show i ≠ 0 by omega])])
        · simp [h2]
          exact ⟨by omega, .mk (i + 1) ⟨by omega, allTo_succ hpf (by obtain rfl : i = 0 := (by omega); simp [fsP, h1])⟩ (by omega) (Weak.of [] [(1, 1)] (by simp [Monitor.cells, fsl]))⟩
      · simp [h1]
        exact Ends.mk [] [] (by simp [hbad (by simp [fsP, h1])])
    · obtain rfl : i = m.found.length := by omega
      have hmo : m.ok = (inB m.records 0 60 && decide (m.list.length ≤ 3)) := by
        have : fsOk m.records m.found = true := hpf
        simp [Monitor.ok, hp, this]
      rw [hmo]
      simp
      refine goCall_eq (l6In_ok _ _ _) (by simp) ?_
      cases q : inB m.records 0 60
      · simp
        exact Ends.mk [] [] (by simp)
      · simp
        exact Ends.mk [] [] (by simp)
end
section
set_option maxRecDepth 200000
set_option maxHeartbeats 8000000
attribute [-simp] List.getD_eq_getElem?_getD
def told (m : Monitor) (r : List Int) : Monitor := ⟨m.records, m.list, m.found ++ r.map fun k => (m.records - 1, k)⟩
theorem newA_v (s d : Int) : (newA s d).v = .agg [.int .i64 s, .int .i64 d, .int .i64 0, .bool false, .int .i64 0, .int .i64 0, .int .i64 0, .sl none 7 [], .int .i64 0, .int .i64 0, .int .i64 0, .int .i64 0, .sl none 7 [], .int .i64 0] := rfl
theorem newA_bd (s d : Int) : (newA s d).bd := ⟨⟨by simp [newA, zSide], by simp [newA, zSide]⟩, ⟨by simp [newA, zSide], by simp [newA, zSide]⟩⟩
theorem l32Begin_ok (m : Monitor) (p : Packet) (hl : m.list.length ≤ 1000) (hf : m.found.length ≤ 900000) (hr : -1000 ≤ m.records ∧ m.records ≤ 1000000) (hp : p.ok = true) :
    Fn Tryz.prog fn_spec_l32Begin [m.own 0 1, p.v] [] ((⟨m.records, (beginL m.list p).1, m.found ++ (beginL m.list p).2.map fun k => (m.records - 1, k)⟩ : Monitor).own 0 1) [] := by
  refine Fn.of_go ln_spec_l32Begin rfl ?_
  have hpl := (packet_ok.1 hp).2.2.2.2.2
  have h0 : 0 < p.chunks.length := by omega
  have f1 := spec_AssocStep_ok (newA p.src p.dst) p (newA_bd _ _) (by omega)
  rw [newA_v] at f1
  have hln := stepS_len (newA p.src p.dst) p
  have hbl : beginL m.list p = (if (nth p.chunks 0).kind ≠ 1 then (m.list, [104]) else
    if (stepS (newA p.src p.dst) p).2 ≠ [] then (m.list, (stepS (newA p.src p.dst) p).2) else
    if 3 ≤ m.list.length then (m.list, [105]) else (m.list ++ [(stepS (newA p.src p.dst) p).1], [])) := rfl
  generalize beginL m.list p = B at *
  generalize stepS (newA p.src p.dst) p = r at *
  obtain ⟨y, rl⟩ := r
  simp only [packet_v, isl, assoc_v] at f1
  simp only at hln hbl
  have n1 := l32Note_ok m 104 (by omega) hr
  have n2 := l32Note_ok m 105 (by omega) hr
  simp only [Monitor.own] at n1 n2
  simp [ac_spec_l32Begin, Monitor.own, packet_v]
  refine goCall_gen [] [] [] [] none f1 (by simp) ?_
  simp [h0, chunk_v]
  refine goTest_dec (fun q1 => ?_) (fun q1 => ?_)
  rotate_left
  · rw [if_pos q1] at hbl
    subst hbl
    simp
    refine goCall_gen [(0, some 0, m.list.length, 14), (1, some 1, m.found.length, 2)] [] [] [] none n1 (by simp) ?_
    simp
    exact Ends.mk [(0, some 416, m.list.length, 14), (1, some 417, m.found.length + 1, 2)] [] (by simp)
  rw [if_neg (by simpa using q1)] at hbl
  simp
  refine goTest_dec (fun q2 => ?_) (fun q2 => ?_)
  · have hne : rl ≠ [] := by intro e; rw [e] at q2; simp at q2
    rw [if_pos hne] at hbl
    subst hbl
    simp
    refine go_loop (fun i => { env := [(2, .ptr 2 0), (4, .ptr 4 0), (6, isl rl), (7, .int .i64 (i : Nat))], loc := [], box := [(2, [.int .i64 m.records, .sl (some 0) 14 (m.list.map Assoc.v), .sl (some 1) 2 ((m.found ++ (rl.take i).map fun k => (m.records - 1, k)).map fV)]), (4, List.replicate 3 .undef)], stat := [(0, some (.own m.list.length 14)), (1, some (.own (m.found.length + i) 2))] }) (fun i => i ≤ rl.length) (fun i => rl.length - i) 0 (by omega) (Weak.of [(0, some 0, m.list.length, 14), (1, some 1, m.found.length, 2)] [(2, 2), (4, 4)] (by simp [isl, List.replicate])) ?_
    intro i hi
    have hmin : min i rl.length = i := by omega
    simp [isl]
    refine goTest_dec (fun hlt => ?_) (fun hge => ?_)
    · have hs := take_nth hlt
      have n3 := l32Note_ok ⟨m.records, m.list, m.found ++ (rl.take i).map fun k => (m.records - 1, k)⟩ (nth rl i) (by simp; omega) hr
      simp only [Monitor.own] at n3
      simp [hlt, iV]
      refine goCall_gen [(0, some 0, m.list.length, 14), (1, some 1, m.found.length + i, 2)] [] [] [] none n3 (by simp [hmin]) ?_
      simp [hmin]
      refine ⟨by omega, Again.mk (i + 1) hlt (by omega) (Weak.of [(0, some 672, m.list.length, 14), (1, some 673, m.found.length + (i + 1), 2)] [(2, 2), (4, 4)] ?_)⟩
      have hs2 : List.take (i + 1) (rl.map (fV ∘ fun k => (m.records - 1, k))) = List.take i (rl.map (fV ∘ fun k => (m.records - 1, k))) ++ [fV (m.records - 1, nth rl i)] := by rw [← List.map_take, hs]; simp [List.map_take]
      simp [isl, hs2, Nat.add_assoc]
    · obtain rfl : i = rl.length := by omega
      simp
      exact Ends.mk [(0, some 0, m.list.length, 14), (1, some 1, m.found.length + rl.length, 2)] [] (by simp [List.take_of_length_le])
  have hne : rl = [] := by simpa using q2
  subst hne
  rw [if_neg (by simp)] at hbl
  simp
  refine goTest_dec (fun q3 => ?_) (fun q3 => ?_)
  · rw [if_pos q3] at hbl
    subst hbl
    simp
    refine goCall_gen [(0, some 0, m.list.length, 14), (1, some 1, m.found.length, 2)] [] [] [] none n2 (by simp) ?_
    simp
    exact Ends.mk [(0, some 800, m.list.length, 14), (1, some 801, m.found.length + 1, 2)] [] (by simp)
  · rw [if_neg q3] at hbl
    subst hbl
    simp
    repeat' (first | (refine And.intro (by omega) ?_) | (refine And.intro (by unfold roomOk; omega) ?_) | fail)
    exact Ends.mk [(0, some 0, m.list.length + 1, 14), (1, some 1, m.found.length, 2)] [] (by simp [assoc_v])
theorem setEl_assoc {l : List Assoc} {j : Nat} {y : Assoc} (h : j < l.length) : setEl j 0 [.int .i64 y.src, .int .i64 y.dst, .int .i64 y.state, .bool y.byB, .int .i64 y.a.tag, .int .i64 y.a.streams, .int .i64 y.a.first, .sl none 7 (y.a.sent.map Part.v), .int .i64 y.a.acked, .int .i64 y.b.tag, .int .i64 y.b.streams, .int .i64 y.b.first, .sl none 7 (y.b.sent.map Part.v), .int .i64 y.b.acked] (l.map Assoc.v) = (l.set j y).map Assoc.v := by
  unfold setEl
  rw [getD_map h, List.map_set]
  simp [assoc_v, wrEl, setCells]
theorem l32Step_ok (m : Monitor) (s : List UInt8) (hm : m.bd) (hf : m.found.length ≤ 800000) (hr : -1000 ≤ m.records ∧ m.records ≤ 900000) (hs : s.length ≤ 1000000) :
    Fn Tryz.prog fn_spec_l32Step [m.v, .str s] [] ((monStep m s).own 0 1) [] := by
  refine Fn.of_go ln_spec_l32Step rfl ?_
  have hl := hm.len
  have c1 := l32Copy_ok m hm
  have g1 := spec_PacketGet_ok s hs
  have hcode := getP_code s
  have hgp := getP_ok (t := s)
  have ht : textL m.list s = if (getP s).2 ≠ 0 then (m.list, [100 + (getP s).2]) else packL m.list (getP s).1 := rfl
  have hR : (monStep m s).own 0 1 = .agg [.int .i64 (m.records + 1), .sl (some 0) 14 ((textL m.list s).1.map Assoc.v), .sl (some 1) 2 ((m.found ++ (textL m.list s).2.map fun r => (m.records, r)).map fV)] := rfl
  rw [hR]
  generalize textL m.list s = T at *
  generalize getP s = gp at *
  obtain ⟨p, code⟩ := gp
  simp only at hcode hgp ht
  simp only [Monitor.own, mon_v] at c1
  simp only [resP, packet_v] at g1
  simp [ac_spec_l32Step, mon_v]
  refine goCall_eq c1 (by simp) ?_
  simp
  refine ⟨by omega, ?_⟩
  refine goCall_eq g1 (by simp) ?_
  simp
  refine goTest_dec (fun q1 => ?_) (fun q1 => ?_)
  rotate_left
  · rw [if_pos q1] at ht
    subst ht
    have n1 := l32Note_ok ⟨m.records + 1, m.list, m.found⟩ (100 + code) (by simp; omega) (by simp; omega)
    simp only [Monitor.own] at n1
    have e : 101 + code - 1 = 100 + code := by omega
    simp [e]
    refine ⟨by omega, by omega, ?_⟩
    refine goCall_gen [(0, some 240, m.list.length, 14), (1, some 241, m.found.length, 2)] [] [] [] none n1 (by simp) ?_
    simp
    exact Ends.mk [(0, some 496, m.list.length, 14), (1, some 497, m.found.length + 1, 2)] [] (by simp [fV])
  rw [if_neg (by simpa using q1)] at ht
  have hp := hgp q1
  have hpl := (packet_ok.1 hp).2.2.2.2.2
  have h0 : 0 < p.chunks.length := by omega
  have f1 := l32Find_ok ⟨m.records + 1, m.list, m.found⟩ p.src p.dst hl
  simp only [mon_v] at f1
  simp
  refine goCall_gen [] [] [] [240, 241] none f1 (by simp) ?_
  have hpk : packL m.list p = match findM m.list p.src p.dst with
    | none => beginL m.list p
    | some i => if restartS m.list p i then beginL (m.list.eraseIdx i) p else (m.list.set i (stepS (nth m.list i) p).1, (stepS (nth m.list i) p).2) := rfl
  rw [hpk] at ht
  clear hpk
  cases hfm : findM m.list p.src p.dst with
  | none =>
    rw [hfm] at ht
    simp only at ht
    subst ht
    have b1 := l32Begin_ok ⟨m.records + 1, m.list, m.found⟩ p hl (by simp; omega) (by simp; omega) hp
    have hbl := begin_len m.list p
    simp only [Monitor.own, packet_v] at b1
    simp [idxV]
    generalize beginL m.list p = B at *
    refine goCall_gen [(0, some 240, m.list.length, 14), (1, some 241, m.found.length, 2)] [] [] [] none b1 (by simp) ?_
    simp
    exact Ends.mk [(0, some 1472, B.1.length, 14), (1, some 1473, m.found.length + B.2.length, 2)] [] (by simp)
  | some k =>
    rw [hfm] at ht
    simp only at ht
    obtain ⟨hk, -⟩ := findM_some hfm
    have a1 := spec_AssocStep_ok (nth m.list k) p (hm.each _ (nth_mem hk)) (by omega)
    have hln := stepS_len (nth m.list k) p
    have pa := spec_PacketAlone_ok p (by omega)
    have hbo := (packet_ok.1 hp).1 _ (nth_mem h0)
    have hcb : (nth p.chunks 0).body.length ≤ 60 := by simp only [Chunk.ok, Bool.and_eq_true, decide_eq_true_eq] at hbo; exact hbo.2
    have ig := spec_InitGet_ok (nth p.chunks 0) (by omega)
    have hel := erase_len hk
    have b1 := l32Begin_ok ⟨m.records + 1, m.list.eraseIdx k, m.found⟩ p (by simp only; omega) (by simp; omega) (by simp; omega) hp
    have hres : restartS m.list p k = (decide ((nth m.list k).state = 7) && decide ((nth p.chunks 0).kind = 1) && p.alone && decide (p.tag = 0) && (getHello (nth p.chunks 0)).isSome) := rfl
    simp only [Monitor.own, packet_v, assoc_v, chunk_v, isl] at a1 pa ig b1
    rw [hres] at ht
    have hset := fun y : Assoc => setEl_assoc (y := y) hk
    generalize beginL (m.list.eraseIdx k) p = B at *
    generalize stepS (nth m.list k) p = r at *
    obtain ⟨y, rl⟩ := r
    simp only at a1 hln ht
    simp [idxV, hk, h0, chunk_v, assoc_v]
    cases d1 : decide ((nth m.list k).state = 7)
    all_goals (try (have hh := of_decide_eq_true d1; simp [h0, chunk_v]; cases d2 : decide ((nth p.chunks 0).kind = 1)))
    all_goals (try (have hh := of_decide_eq_true d2; simp; refine goCall_eq pa (by simp) ?_; cases d3 : p.alone))
    all_goals (try (have hh : p.alone = true := d3; simp; cases d4 : decide (p.tag = 0)))
    all_goals (try (have hh := of_decide_eq_true d4; simp [h0, chunk_v]; refine goCall_eq ig ?_ ?_; (· cases getHello (nth p.chunks 0) <;> simp [optV, zHello, hi_v]); cases d5 : getHello (nth p.chunks 0)))
    rotate_right
    · rename_i hx
      rw [if_pos (by simp [d1, d2, d3, d4, d5])] at ht
      subst ht
      have hmk : min k m.list.length = k := by omega
      have her : (m.list.eraseIdx k).map Assoc.v = List.take k (m.list.map Assoc.v) ++ List.drop (k + 1) (m.list.map Assoc.v) := by rw [List.eraseIdx_eq_take_drop_succ]; simp [List.map_take, List.map_drop]
      rw [her] at b1
      have htl : List.take m.list.length (m.list.map Assoc.v) = m.list.map Assoc.v := List.take_of_length_le (by simp)
      simp [optV, hi_v, htl, hmk]
      refine ⟨by omega, ⟨fun z hz => ?_, by unfold roomOk; omega⟩, by omega, by omega, ⟨fun z hz => ?_, by unfold roomOk; omega⟩, ?_⟩
      · obtain ⟨x, _, rfl⟩ := List.mem_map.1 (List.mem_of_mem_take hz); rfl
      · obtain ⟨x, _, rfl⟩ := List.mem_map.1 (List.mem_of_mem_drop hz); rfl
      · refine goCall_gen [(0, some 1200, k + (m.list.length - (k + 1)), 14), (1, some 241, m.found.length, 2)] [] [] [] none b1 (by simp [hmk]) ?_
        simp
        exact Ends.mk [(0, some 1472, T.1.length, 14), (1, some 1473, m.found.length + T.2.length, 2)] [] (by simp)
    all_goals (rw [if_neg (by simp [*])] at ht)
    all_goals subst ht
    all_goals
      simp [optV, hi_v, hk, assoc_v]
      refine goDCall_eq a1 (by simp) (by simp) ?_
      simp [hk, hset]
      refine go_loop (fun i => { env := [(4, .ptr 4 0), (5, .ptr 5 0), (12, isl rl), (13, .int .i64 (i : Nat))], loc := [], box := [(4, List.replicate 3 .undef), (5, [.int .i64 (m.records + 1), .sl (some 0) 14 ((m.list.set k y).map Assoc.v), .sl (some 1) 2 ((m.found ++ (rl.take i).map fun k => (m.records, k)).map fV)])], stat := [(0, some (.own m.list.length 14)), (1, some (.own (m.found.length + i) 2))] }) (fun i => i ≤ rl.length) (fun i => rl.length - i) 0 (by omega) (Weak.of [(0, some 240, m.list.length, 14), (1, some 241, m.found.length, 2)] [(4, 4), (5, 5)] (by simp [isl, List.replicate, assoc_v])) ?_
      intro i hi
      have hmin : min i rl.length = i := by omega
      simp [isl]
      refine goTest_dec (fun hlt => ?_) (fun hge => ?_)
      · have hs := take_nth hlt
        have n3 := l32Note_ok ⟨m.records + 1, m.list.set k y, m.found ++ (rl.take i).map fun k => (m.records, k)⟩ (nth rl i) (by simp; omega) (by simp; omega)
        simp only [Monitor.own] at n3
        simp [hlt, iV]
        refine goCall_gen [(0, some 0, m.list.length, 14), (1, some 1, m.found.length + i, 2)] [] [] [] none n3 (by simp [hmin]) ?_
        simp [hmin]
        refine ⟨by omega, Again.mk (i + 1) hlt (by omega) (Weak.of [(0, some 1904, m.list.length, 14), (1, some 1905, m.found.length + (i + 1), 2)] [(4, 4), (5, 5)] ?_)⟩
        have hs2 : List.take (i + 1) (rl.map (fV ∘ fun k => (m.records, k))) = List.take i (rl.map (fV ∘ fun k => (m.records, k))) ++ [fV (m.records, nth rl i)] := by rw [← List.map_take, hs]; simp [List.map_take]
        simp [isl, hs2, Nat.add_assoc]
      · obtain rfl : i = rl.length := by omega
        simp
        exact Ends.mk [(0, some 0, m.list.length, 14), (1, some 1, m.found.length + rl.length, 2)] [] (by simp [List.take_of_length_le, assoc_v])
end
section
set_option maxRecDepth 200000
set_option maxHeartbeats 8000000
attribute [-simp] List.getD_eq_getElem?_getD
theorem zMonitor_v : zMonitor.v = .agg [.int .i64 0, .sl none 14 [], .sl none 2 []] := rfl
theorem fold_bd {l : List Tap} (h : capOk l = true) {i : Nat} (hi : i ≤ l.length) : (foldM zMonitor (l.take i)).bd ∧ (foldM zMonitor (l.take i)).found.length ≤ 800000 ∧ (foldM zMonitor (l.take i)).records ≤ 60 := by
  have h1 := run_sm (l.take i)
  have h2 : runS (l.take i) = foldM zMonitor (l.take i) := by unfold runS; rw [if_pos (capOk_take h i)]
  rw [h2] at h1
  exact ⟨h1.bd (by omega), by have := h1.found; omega, h1.recs.2⟩
theorem spec_MonitorRun_ok (l : List Tap) (hl : l.length ≤ 1000000) (ht : ∀ r ∈ l, r.text.length ≤ 1000000) : Fn Tryz.prog fn_spec_MonitorRun [rsl l] [] (runS l).v [] := by
  refine Fn.of_go ln_spec_MonitorRun rfl ?_
  have f1 := spec_CaptureValid_ok l hl
  simp only [rsl] at f1
  simp [ac_spec_MonitorRun, rsl]
  refine go_loop (fun i : Nat => { env := [(0, rsl l), (2, .ptr 2 0), (3, .ptr 3 0), (4, .int .i64 (i : Nat))], loc := [], box := [(2, List.replicate 3 .undef), (3, (foldM zMonitor (l.take i)).cells)], stat := [] }) (fun i => i ≤ l.length ∧ (i = 0 ∨ capOk l = true)) (fun i => l.length - i) 0 ⟨by omega, by simp⟩ (Weak.of [] [(2, 2), (3, 3)] (by simp [rsl, List.replicate, foldM, zMonitor, Monitor.cells, fsl])) ?_
  rintro i ⟨hi, hc⟩
  simp [rsl]
  refine goTest_dec (fun hlt => ?_) (fun hge => ?_)
  · simp [hlt]
    refine goCall_eq f1 (by simp) ?_
    cases q : capOk l
    · have h0 : i = 0 := by rcases hc with h | h; exact h; rw [q] at h; cases h
      subst h0
      have e : runS l = zMonitor := by unfold runS; rw [if_neg (by simp [q])]
      rw [e, zMonitor_v]
      simp [foldM, zMonitor, Monitor.cells, fsl]
      exact Ends.mk [] [] (by simp)
    · obtain ⟨hb, hf, hr⟩ := fold_bd q hi
      have hb0 := hb.recs
      have g1 := l32Step_ok (foldM zMonitor (l.take i)) (nth l i).text hb hf (by omega) (ht _ (nth_mem hlt))
      have hs := take_nth hlt
      have hn : foldM zMonitor (l.take (i + 1)) = monStep (foldM zMonitor (l.take i)) (nth l i).text := by rw [hs, foldM_snoc]
      rw [← hn] at g1
      simp only [mon_v, Monitor.own] at g1
      simp [hlt, rec_v, Monitor.cells, fsl]
      refine goCall_eq g1 (by simp) ?_
      simp
      exact ⟨by omega, Again.mk (i + 1) hlt (by omega) (Weak.of [] [(2, 2), (3, 3)] (by simp [rsl, List.replicate, Monitor.cells, fsl]))⟩
  · obtain rfl : i = l.length := by omega
    have e : runS l = foldM zMonitor l := by
      unfold runS
      split
      · rfl
      · rename_i q
        rcases hc with h | h
        · rw [List.eq_nil_of_length_eq_zero h]; rfl
        · exact absurd h q
    rw [e, mon_v]
    simp [Monitor.cells, fsl]
    exact Ends.mk [] [] (by simp)
end
section
set_option maxRecDepth 200000
set_option maxHeartbeats 8000000
attribute [-simp] List.getD_eq_getElem?_getD
section
variable {st : St} {p : Nat} {src : List UInt8} {a : Int} {d : AD} {rs : List AOp} {k : List It} {Q : AE → St → Prop}
end
inductive MonR (src : List UInt8) (a k : Int) : V → List (List V) → Prop
  | mk (m : Monitor) (b : Int) (h : m.sm 2000) (hb : a ≤ b ∧ b ≤ a + k) : MonR src a k m.v [[bsl src, .int .i64 b]]
section
variable {st : St} {p : Nat} {src : List UInt8} {a : Int} {d : AD} {rs : List AOp} {k : List It} {Q : AE → St → Prop}
end
structure Side.dr (s : Side) : Prop where
  bd : s.bd
  str : s.streams ≤ 1000
structure Assoc.dr (x : Assoc) : Prop where
  a : x.a.dr
  b : x.b.dr
theorem Assoc.dr.bd {x : Assoc} (h : x.dr) : x.bd := ⟨h.a.bd, h.b.bd⟩
theorem Side.ok_dr {s : Side} (h : s.ok = true) : s.dr := by
  refine ⟨Side.ok_bd h, ?_⟩
  by_cases q : s.tag = 0
  · rw [((side_zero q).1 h).1]; omega
  · have := ((side_iff q).1 h).2.2.1; omega
theorem Assoc.ok_dr {x : Assoc} (h : x.ok = true) : x.dr := ⟨Side.ok_dr (Assoc.ok_side h false).1, Side.ok_dr (Assoc.ok_side h true).1⟩
inductive AsR (src : List UInt8) (a k : Int) : V → List (List V) → Prop
  | mk (x : Assoc) (b : Int) (h : x.dr) (hb : a ≤ b ∧ b ≤ a + k) : AsR src a k x.v [[bsl src, .int .i64 b]]
end
section
set_option maxRecDepth 200000
set_option maxHeartbeats 16000000
attribute [-simp] List.getD_eq_getElem?_getD
section
variable {st : St} {p : Nat} {src : List UInt8} {a : Int} {d : AD} {rs : List AOp} {k : List It} {Q : AE → St → Prop}
end
inductive SdR (src : List UInt8) (a k : Int) : V → List (List V) → Prop
  | mk (s : Side) (b : Int) (h : s.dr) (hb : a ≤ b ∧ b ≤ a + k) : SdR src a k s.v [[bsl src, .int .i64 b]]
end
section
set_option maxRecDepth 200000
set_option maxHeartbeats 16000000
attribute [-simp] List.getD_eq_getElem?_getD
inductive PnR (src : List UInt8) (a k : Int) : V → List (List V) → Prop
  | mk (d : Part) (b : Int) (hb : a ≤ b ∧ b ≤ a + k) : PnR src a k d.v [[bsl src, .int .i64 b]]
end
section
set_option maxRecDepth 200000
set_option maxHeartbeats 16000000
attribute [-simp] List.getD_eq_getElem?_getD
section
variable {st : St} {p : Nat} {src : List UInt8} {a : Int} {d : AD} {rs : List AOp} {k : List It} {Q : AE → St → Prop}
end
inductive CnR (src : List UInt8) (a k : Int) : V → List (List V) → Prop
  | mk (c : Chunk) (b : Int) (hb : a ≤ b ∧ b ≤ a + k) : CnR src a k c.v [[bsl src, .int .i64 b]]
end
section
set_option maxRecDepth 200000
set_option maxHeartbeats 16000000
attribute [-simp] List.getD_eq_getElem?_getD
inductive PqR (src : List UInt8) (a k : Int) : V → List (List V) → Prop
  | mk (p : Packet) (b : Int) (h : p.chunks.length ≤ 9) (hb : a ≤ b ∧ b ≤ a + k) : PqR src a k p.v [[bsl src, .int .i64 b]]
inductive ApR : V → List (List V) → Prop
  | mk (x : Assoc) (p : Packet) (hx : x.dr) (hp : p.chunks.length ≤ 9) : ApR (.tup [x.v, p.v]) []
end
end Go.Proofs.YtjkbbdmkgealfaaGreatDoor
