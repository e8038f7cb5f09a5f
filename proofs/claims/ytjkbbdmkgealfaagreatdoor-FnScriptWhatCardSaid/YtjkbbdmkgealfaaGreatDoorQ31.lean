/-
  The packets and the records of a talk, by the program: contracts.
  Texts of findings, as lists: written twice, cut, and with a space ahead.
  The library's Split at a separator of one byte.
  The desk: plain, and the change of a record by the program.
  What was said, and what is known to have come: contracts.
-/
import Derived.Test.YtjkbbdmkgealfaaGreatDoorQ28
import Derived.Test.YtjkbbdmkgealfaaGreatDoorQ30
import Derived.Test.YtjkbbdmkgealfaaGreatDoorQ18
import Derived.Test.YtjkbbdmkgealfaaGreatDoorQ19
namespace Go.Proofs.YtjkbbdmkgealfaaGreatDoor
set_option linter.all false
section
set_option maxRecDepth 200000
set_option maxHeartbeats 8000000
attribute [-simp] List.getD_eq_getElem?_getD
theorem named_send : Named Tryz.prog fn_impl_TalkPackets_1 := ⟨_, Tryz.func72, by kernel_rfl, by kernel_rfl⟩
theorem named_say : Named Tryz.prog fn_impl_TalkPackets_2 := ⟨_, Tryz.func73, by kernel_rfl, by kernel_rfl⟩
def sendT (t : Talk) (b : Bool) (c : Chunk) (tag : Int) : Packet := if b then ⟨t.dst, t.src, tag, [c]⟩ else ⟨t.src, t.dst, tag, [c]⟩
def osl (l : List Packet) : V := .sl (some 0) 4 (l.map Packet.v)
theorem send_ok (t : Talk) (b : Bool) (c : Chunk) (tag : Int) (l : List Packet) (hl : l.length ≤ 1000) :
    Fn Tryz.prog fn_impl_TalkPackets_1 [.bool b, c.v, .int .i64 tag, .ptr 1000 0, .ptr 1001 0] [t.cells, [osl l]] (.tup []) [t.cells, [osl (l ++ [sendT t b c tag])]] := by
  refine Fn.of_go ln_impl_TalkPackets_1 rfl ?_
  simp [ac_impl_TalkPackets_1, chunk_v, osl, Talk.cells, Hello.cells]
  cases b
  · simp
    refine ⟨by unfold roomOk; omega, ?_⟩
    exact Ends.mk [(0, some 0, l.length + 1, 4)] [(1000, 1000), (1001, 1001)] (by simp [osl, Talk.cells, Hello.cells, sendT, packet_v, chunk_v])
  · simp
    refine ⟨by unfold roomOk; omega, ?_⟩
    exact Ends.mk [(0, some 0, l.length + 1, 4)] [(1000, 1000), (1001, 1001)] (by simp [osl, Talk.cells, Hello.cells, sendT, packet_v, chunk_v])
theorem say_ok (t : Talk) (b : Bool) (c : Chunk) (l : List Packet) (hl : l.length ≤ 1000) :
    Fn Tryz.prog fn_impl_TalkPackets_2 [.bool b, c.v, .ptr 1000 0, .ptr 1001 0] [[.fn fn_impl_TalkPackets_1 [.ptr 1001 0, .ptr 1002 0]], t.cells, [osl l]] (.tup [])
      [[.fn fn_impl_TalkPackets_1 [.ptr 1001 0, .ptr 1002 0]], t.cells, [osl (l ++ [packT t b [c]])]] := by
  refine Fn.of_go ln_impl_TalkPackets_2 rfl ?_
  have f1 := send_ok t b c (if b then t.a.tag else t.b.tag) l hl
  have e : sendT t b c (if b then t.a.tag else t.b.tag) = packT t b [c] := by cases b <;> rfl
  rw [e] at f1
  simp [chunk_v, osl, Talk.cells, Hello.cells] at f1
  simp [ac_impl_TalkPackets_2, chunk_v, osl, Talk.cells, Hello.cells]
  cases b
  · simp at f1
    simp
    refine ⟨named_send, goCall_gen [(0, some 0, l.length, 4)] [(1000, 1001), (1001, 1002)] [] [] none f1 (by simp) ?_⟩
    simp
    exact Ends.mk [(0, some 288, l.length + 1, 4)] [(1000, 1000), (1001, 1001), (1002, 1002)] (by simp)
  · simp at f1
    simp
    refine ⟨named_send, goCall_gen [(0, some 0, l.length, 4)] [(1000, 1001), (1001, 1002)] [] [] none f1 (by simp) ?_⟩
    simp
    exact Ends.mk [(0, some 192, l.length + 1, 4)] [(1000, 1000), (1001, 1001), (1002, 1002)] (by simp)
def pairsI (t : Talk) (i k : Nat) : List Packet := ((partsJ t i).take k).flatMap (pairT t (nth t.says i).byB)
theorem pairsI_zero (t : Talk) (i : Nat) : pairsI t i 0 = [] := by simp [pairsI]
theorem pairsI_succ {t : Talk} {i k : Nat} (h : k < (partsJ t i).length) : pairsI t i (k + 1) = pairsI t i k ++ pairT t (nth t.says i).byB (nth (partsJ t i) k) := by
  unfold pairsI
  rw [take_nth h]
  simp
theorem pairsI_all (t : Talk) (i : Nat) : sentI t (i + 1) = sentI t i ++ pairsI t i (partsJ t i).length := by
  rw [sentI_succ]
  unfold pairsI
  rw [List.take_length]
theorem sentI_zero (t : Talk) : sentI t 0 = [] := by simp [sentI]
theorem pairsI_len {t : Talk} {i : Nat} : ∀ {k : Nat}, k ≤ (partsJ t i).length → (pairsI t i k).length = 2 * k
  | 0, _ => by rw [pairsI_zero]; rfl
  | k + 1, h => by
    rw [pairsI_succ (by omega), List.length_append, pairsI_len (by omega)]
    simp [pairT]
    omega
theorem sentI_up (t : Talk) : ∀ (k i : Nat), (sentI t i).length ≤ (sentI t (i + k)).length
  | 0, i => Nat.le_refl _
  | k + 1, i => by
    have h1 := sentI_up t k i
    have h2 : sentI t (i + (k + 1)) = sentI t (i + k) ++ pairsI t (i + k) (partsJ t (i + k)).length := pairsI_all t (i + k)
    rw [h2, List.length_append]
    omega
theorem sent_len {t : Talk} (h : t.ok = true) {i : Nat} (hi : i ≤ t.says.length) : (sentI t i).length ≤ 60 := by
  have h1 := (packets_short t).2
  rw [packets_sent h, List.length_append, List.length_append] at h1
  have h2 := sentI_up t (t.says.length - i) i
  rw [show i + (t.says.length - i) = t.says.length from by omega] at h2
  omega
theorem impl_TalkPackets_ok (t : Talk) (hb : t.bd) : Fn Tryz.prog fn_impl_TalkPackets [t.v] [] (.sl none 4 ((packetsT t).map Packet.v)) [] := by
  refine Fn.of_go ln_impl_TalkPackets rfl ?_
  have f0 := impl_TalkValid_ok t hb
  simp only [talk_v] at f0
  simp [ac_impl_TalkPackets, talk_v]
  refine goCall_eq f0 (by simp) ?_
  cases hok : t.ok
  · simp
    exact Ends.mk [] [] (by simp [packetsT, hok])
  have hc := talk_c hok
  have f1 := impl_InitPut_ok t.a false
  have f2 := impl_InitPut_ok t.b true
  have f3 := partsOf_ok t hok
  simp only [opt_get, hi_v] at f1 f2
  simp only [talk_v] at f3
  have eH : helloT t = [sendT t false ((putHello t.a false).getD zChunk) 0, packT t true [(putHello t.b true).getD zChunk], packT t false [⟨10, 0, []⟩], packT t true [⟨11, 0, []⟩]] := rfl
  have hps := packets_sent hok
  have hsl := fun i (hi : i ≤ t.says.length) => sent_len hok hi
  have hss := hc.says
  generalize (putHello t.a false).getD zChunk = c1 at *
  generalize (putHello t.b true).getD zChunk = c2 at *
  simp only [chunk_v] at f1 f2
  have s1 := send_ok t false c1 0 [] (by simp)
  have s2 := say_ok t true c2 [sendT t false c1 0] (by simp)
  have s3 := say_ok t false ⟨10, 0, []⟩ [sendT t false c1 0, packT t true [c2]] (by simp)
  have s4 := say_ok t true ⟨11, 0, []⟩ [sendT t false c1 0, packT t true [c2], packT t false [⟨10, 0, []⟩]] (by simp)
  simp [chunk_v, osl, Talk.cells, Hello.cells] at s1 s2 s3 s4
  simp
  refine goCall_eq f1 (by simp) ?_
  simp [chunk_v]
  refine goCall_eq f2 (by simp) ?_
  simp [chunk_v]
  refine ⟨named_send, goCall_gen [(0, some 336, 0, 4)] [(1000, 1), (1001, 3)] [] [] none s1 (by simp) ?_⟩
  simp [chunk_v]
  refine ⟨named_say, goCall_gen [(0, some 608, 1, 4)] [(1000, 4), (1001, 1), (1002, 3)] [] [] none s2 (by simp) ?_⟩
  simp
  refine ⟨named_say, goCall_gen [(0, some 656, 2, 4)] [(1000, 4), (1001, 1), (1002, 3)] [] [] none s3 (by simp) ?_⟩
  simp
  refine ⟨named_say, goCall_gen [(0, some 704, 3, 4)] [(1000, 4), (1001, 1), (1002, 3)] [] [] none s4 (by simp) ?_⟩
  simp
  refine goCall_gen [] [] [] [] none f3 (by simp) ?_
  simp
  obtain ⟨L0, hL0⟩ : ∃ L0, L0 = helloT t := ⟨_, rfl⟩
  have hL4 : L0.length = 4 := by rw [hL0]; rfl
  rw [← hL0] at eH hps
  refine go_loop (fun i : Nat => { env := [(1, .ptr 1 0), (3, .ptr 3 0), (4, .ptr 4 0), (5, .fn fn_impl_TalkPackets_2 [.ptr 4 0, .ptr 1 0]), (49, .sl (some 1) 1 (outI t t.says.length)), (50, .int .i64 (t.says.length : Nat)), (51, .int .i64 (i : Nat))], loc := [], box := [(1, t.cells), (3, [.sl (some 0) 4 ((L0 ++ sentI t i).map Packet.v)]), (4, [.fn fn_impl_TalkPackets_1 [.ptr 1 0, .ptr 3 0]])], stat := [(0, some (.own (L0 ++ sentI t i).length 4)), (1, some (.own t.says.length 1))] })
    (fun i => i ≤ t.says.length) (fun i => t.says.length - i) 0 (by omega)
    (Weak.of [(0, some 752, 4, 4), (1, some 784, t.says.length, 1)] [(1, 1), (3, 3), (4, 4)] (by simp [Talk.cells, Hello.cells, eH, sentI_zero, outI_len])) ?_
  intro i hi
  have hLi := hsl i hi
  simp [Talk.cells, Hello.cells]
  refine goTest_dec (fun hlt => ?_) (fun hge => ?_)
  · have hLi2 := hsl (i + 1) hlt
    have hall := pairsI_all t i
    have hz0 := pairsI_zero t i
    rw [hall, List.length_append] at hLi2
    have hpl := fun k => pairsI_len (t := t) (i := i) (k := k)
    have hpn := hpl _ (Nat.le_refl (partsJ t i).length)
    have hnx := fun k => pairsI_succ (t := t) (i := i) (k := k)
    have hel : nth (outI t t.says.length) i = listJ t i := by
      rw [nth_eq (by rw [outI_len]; exact hlt)]
      simp [outI]
    have hlj : listJ t i = .sl none 8 ((partsJ t i).map (tpV (nth t.says i).byB)) := rfl
    have hgd : (outI t t.says.length).getD i .undef = .sl none 8 ((partsJ t i).map (tpV (nth t.says i).byB)) := by
      rw [getD_nth (by rw [outI_len]; exact hlt), hel, hlj]
    simp [outI_len, hlt, hgd]
    generalize sentI t i = S at *
    generalize hP : partsJ t i = P at *
    generalize (nth t.says i).byB = b at *
    refine go_loop (fun k : Nat => { env := [(1, .ptr 1 0), (3, .ptr 3 0), (4, .ptr 4 0), (5, .fn fn_impl_TalkPackets_2 [.ptr 4 0, .ptr 1 0]), (49, .sl (some 1) 1 (outI t t.says.length)), (50, .int .i64 (t.says.length : Nat)), (51, .int .i64 (i : Nat)), (55, .sl none 8 (P.map (tpV b))), (56, .int .i64 (P.length : Nat)), (57, .int .i64 (k : Nat))], loc := [], box := [(1, t.cells), (3, [.sl (some 0) 4 ((L0 ++ S ++ pairsI t i k).map Packet.v)]), (4, [.fn fn_impl_TalkPackets_1 [.ptr 1 0, .ptr 3 0]])], stat := [(0, some (.own (L0 ++ S ++ pairsI t i k).length 4)), (1, some (.own t.says.length 1))] })
      (fun k => k ≤ P.length) (fun k => P.length - k) 0 (by omega)
      (Weak.of [(0, some 0, (L0 ++ S).length, 4), (1, some 1, t.says.length, 1)] [(1, 1), (3, 3), (4, 4)] (by simp [Talk.cells, Hello.cells, hz0, outI_len])) ?_
    intro k hk
    have hpk := hpl k hk
    simp [Talk.cells, Hello.cells]
    refine goTest_dec (fun hlk => ?_) (fun hgk => ?_)
    · have hn := hnx k hlk
      have g1 := impl_DataPut_ok (nth P k)
      have g2 := impl_SackPut_ok ⟨(nth P k).tsn, []⟩ (by simp)
      have d1 : (putPart (nth P k)).getD zChunk = dataC (nth P k) := rfl
      have d2 : (putSack ⟨(nth P k).tsn, []⟩).getD zChunk = sackC (nth P k) := rfl
      have w1 := say_ok t b (dataC (nth P k)) (L0 ++ S ++ pairsI t i k) (by simp; omega)
      have w2 := say_ok t (!b) (sackC (nth P k)) (L0 ++ S ++ pairsI t i k ++ [packT t b [dataC (nth P k)]]) (by simp; omega)
      have hpt : pairT t b (nth P k) = [packT t b [dataC (nth P k)], packT t (!b) [sackC (nth P k)]] := rfl
      rw [hpt] at hn
      simp only [opt_get, d1, d2, pt_v] at g1 g2
      generalize dataC (nth P k) = c3 at *
      generalize sackC (nth P k) = c4 at *
      simp [Sack.v, Sack.cells, chunk_v] at g1 g2
      simp [chunk_v, osl, Talk.cells, Hello.cells] at w1 w2
      simp [hlk, tpV]
      refine goCall_eq g1 (by simp) ?_
      simp [chunk_v]
      refine goCall_gen [] [] [] [] none g2 (by simp) ?_
      simp [chunk_v]
      refine ⟨named_say, goCall_gen [(0, some 0, (L0 ++ S ++ pairsI t i k).length, 4)] [(1000, 4), (1001, 1), (1002, 3)] [] [] none w1 (by simp) ?_⟩
      simp
      refine ⟨named_say, goCall_gen [(0, some 1264, L0.length + (S.length + ((pairsI t i k).length + 1)), 4)] [(1000, 4), (1001, 1), (1002, 3)] [] [] none w2 (by simp) ?_⟩
      simp
      exact ⟨by omega, Again.mk (k + 1) hlk (by omega) (Weak.of [(0, some 1360, L0.length + (S.length + ((pairsI t i k).length + 2)), 4), (1, some 1, t.says.length, 1)] [(1, 1), (3, 3), (4, 4)] (by simp [Talk.cells, Hello.cells, hn, outI_len]))⟩
    · obtain rfl : k = P.length := by omega
      simp
      exact ⟨by omega, Again.mk (i + 1) hlt (by omega) (Weak.of [(0, some 0, (L0 ++ S ++ pairsI t i P.length).length, 4), (1, some 1, t.says.length, 1)] [(1, 1), (3, 3), (4, 4)] (by simp [Talk.cells, Hello.cells, hall, outI_len]))⟩
  · obtain rfl : i = t.says.length := by omega
    have w1 := say_ok t false ⟨7, 0, []⟩ (L0 ++ sentI t t.says.length) (by simp; omega)
    have w2 := say_ok t true ⟨8, 0, []⟩ (L0 ++ sentI t t.says.length ++ [packT t false [⟨7, 0, []⟩]]) (by simp; omega)
    have w3 := say_ok t false ⟨14, 0, []⟩ (L0 ++ sentI t t.says.length ++ [packT t false [⟨7, 0, []⟩], packT t true [⟨8, 0, []⟩]]) (by simp; omega)
    simp [chunk_v, osl, Talk.cells, Hello.cells] at w1 w2 w3
    simp
    refine ⟨named_say, goCall_gen [(0, some 0, (L0 ++ sentI t t.says.length).length, 4)] [(1000, 4), (1001, 1), (1002, 3)] [] [] none w1 (by simp) ?_⟩
    simp
    refine ⟨named_say, goCall_gen [(0, some 1440, L0.length + ((sentI t t.says.length).length + 1), 4)] [(1000, 4), (1001, 1), (1002, 3)] [] [] none w2 (by simp) ?_⟩
    simp
    refine ⟨named_say, goCall_gen [(0, some 1488, L0.length + ((sentI t t.says.length).length + 2), 4)] [(1000, 4), (1001, 1), (1002, 3)] [] [] none w3 (by simp) ?_⟩
    simp
    exact Ends.mk [] [] (by simp [hps, oneT])
theorem impl_TalkRecords_own (t : Talk) (n : Int) (hb : t.bd) (hn : 0 ≤ n ∧ n ≤ 1000000) : Fn Tryz.prog fn_impl_TalkRecords [t.v, .int .i64 n] [] (.sl (some 0) 2 ((recordsT t n).map Tap.v)) [] := by
  refine Fn.of_go ln_impl_TalkRecords rfl ?_
  have p1 := impl_TalkPackets_ok t hb
  obtain ⟨hsh, hlen⟩ := packets_short t
  have hR : recordsT t n = if 0 ≤ n ∧ capOk (recsF n (packetsT t)) = true then recsF n (packetsT t) else [] := rfl
  generalize recordsT t n = R at *
  generalize packetsT t = P at *
  simp only [talk_v] at p1
  have h1 : ¬ n < 0 := by omega
  have h2 : ¬ 4294967295 < n := by omega
  simp [ac_impl_TalkRecords, talk_v]
  refine goCall_eq p1 (by simp) ?_
  simp [h1, h2]
  refine go_loop (fun i : Nat => { env := [(1, .int .i64 n), (6, .sl (some 0) 2 ((recsF n (P.take i)).map Tap.v)), (18, .sl none 4 (P.map Packet.v)), (19, .int .i64 (P.length : Nat)), (20, .int .i64 (i : Nat))], loc := [], box := [], stat := [(0, some (.own i 2))] }) (fun i => i ≤ P.length) (fun i => P.length - i) 0 (by omega) (Weak.of [(0, some 272, 0, 2)] [] (by simp [recsF])) ?_
  intro i hi
  simp
  refine goTest_dec (fun hlt => ?_) (fun hge => ?_)
  · have hs := take_nth hlt
    have hmin : min i P.length = i := by omega
    have hrs : recsF n (P.take (i + 1)) = recsF n (P.take i) ++ [⟨n + i, textP (nth P i)⟩] := by rw [hs, recsF_snoc]; simp [hmin]
    have q1 := impl_PacketPut_ok (nth P i) (by have := hsh _ (nth_mem hlt); unfold Short at this; omega)
    have hrl : (recsF n (P.take i)).length = i := by rw [recsF_len]; simp [hmin]
    simp only [packet_v] at q1
    simp [hlt, packet_v]
    refine ⟨by omega, ?_⟩
    refine goCall_eq q1 (by simp) ?_
    simp [hrl]
    repeat' (first | (refine And.intro (by omega) ?_) | (refine And.intro (by unfold roomOk; omega) ?_) | fail)
    exact Again.mk (i + 1) hlt (by omega) (Weak.of [(0, some 0, i + 1, 2)] [] (by simp [hrs, rec_v]))
  · obtain rfl : i = P.length := by omega
    have hrl : (recsF n P).length = P.length := recsF_len P n
    have v1 := impl_CaptureValid_ok (recsF n P) (by omega)
    simp only [rsl] at v1
    simp
    refine goCall_gen [] [] [] [0] none v1 (by simp) ?_
    cases hc : capOk (recsF n P)
    · rw [if_neg (by simp [hc])] at hR
      subst hR
      simp
      exact Ends.mk [(0, none, 0, 2)] [] (by simp)
    · rw [if_pos ⟨by omega, hc⟩] at hR
      subst hR
      simp
      exact Ends.mk [(0, some 0, P.length, 2)] [] (by simp [hrl])
end
section
theorem gl_append {p : List UInt8} {l m : List (List UInt8)} (h : l ≠ []) : gl p (l ++ m) = gl p l ++ m := by
  cases l with
  | nil => exact absurd rfl h
  | cons y t => simp [gl]
theorem cutAll_mid (c : UInt8) (b : List UInt8) : ∀ a : List UInt8, cutAll c (a ++ c :: b) = cutAll c a ++ cutAll c b
  | [] => by simp [cutAll]
  | x :: r => by
    have ih := cutAll_mid c b r
    simp only [List.cons_append, cutAll, ih]
    split
    · simp
    · rw [gl_append (cutAll_ne c r)]
theorem cutAll_count (c : UInt8) : ∀ s : List UInt8, (cutAll c s).length = s.count c + 1
  | [] => by simp [cutAll]
  | x :: r => by
    have ih := cutAll_count c r
    simp only [cutAll, List.count_cons]
    split
    · simp [*]
    · have hl : (gl [x] (cutAll c r)).length = (cutAll c r).length := by
        cases hc : cutAll c r with
        | nil => exact absurd hc (cutAll_ne c r)
        | cons y t => simp [gl]
      simp [*]
end
section
open Go.RowKit
set_option maxRecDepth 200000
set_option maxHeartbeats 8000000
attribute [-simp] List.getD_eq_getElem?_getD
theorem splitK_cut (c : UInt8) : ∀ (k : Nat) (s : List UInt8), s.count c = k → Lib.splitK [c] 0 k s = cutAll c s
  | 0, s, h => by
    rw [cutAll_notin (List.count_eq_zero.1 h)]
    rfl
  | k + 1, s, h => by
    have hi := index_one c s
    cases h2 : (cut1 c s).2.2 with
    | false =>
      obtain ⟨_, _, _, h3⟩ := cut1_none c s h2
      have := List.count_eq_zero.2 h3
      omega
    | true =>
      have hp := cut1_parts c s h2
      have ha := cut1_all c s h2
      have hc1 := cutAll_count c s
      rw [ha, List.length_cons, cutAll_count] at hc1
      rw [h2] at hi
      simp only [if_true] at hi
      have ih := splitK_cut c k (cut1 c s).2.1 (by omega)
      have h5 : s.take (cut1 c s).1.length = (cut1 c s).1 := (List.prefix_iff_eq_take.1 ⟨_, hp.symm⟩).symm
      have h6 : s.drop ((cut1 c s).1.length + 1) = (cut1 c s).2.1 := by
        have : s.drop ((cut1 c s).1.length + 1) = ((cut1 c s).1 ++ c :: (cut1 c s).2.1).drop ((cut1 c s).1.length + 1) := by rw [← hp]
        rw [this, List.drop_append]
        simp
      have h7 : ¬ ((((cut1 c s).1.length : Int) == -1) = true) := by simp
      rw [ha, Lib.splitK, hi, if_neg h7]
      simp only [Int.toNat_natCast, Nat.add_zero, List.length_singleton]
      rw [h5, h6, ih]
theorem Fn.of_below2 {P : Program} {f : FuncId} {args : List V} {R : V} (hargs : argStat args [] = []) (hR : R.stat = [])
    (h : ∀ (w : World) (γ : Ghost) (vs : List Value), Tb (γ.un w) w → (∀ g, γ.O g → g < w.heap.size) → CellsRel [] γ w args vs → Calls P f vs.toArray w fun e w' => ∃ v, e = .returned v ∧ Below w.heap.size w w' ∧ VRel [] γ w' R v) : Fn P f args [] R [] := by
  intro w γ vs hT hH hc
  rw [hargs] at hH hc
  refine (h w γ vs hT (fun g hg => by
    rcases hg with hg | hg
    · obtain ⟨x, hx⟩ := Option.ne_none_iff_exists'.1 hg
      exact (hH.ow g x hx).1
    · exact (hH.av.2 g (by rw [hH.av.1] at hg ⊢; exact hg)).1) hc).mono fun e w' hex => ?_
  obtain ⟨v, rfl, hb, h5⟩ := hex
  have hs : resStat R [] = [] := by unfold resStat; rw [hR]; rfl
  refine ⟨v, γ, rfl, ?_, ?_⟩
  · rw [hs]
    refine ⟨fun d cs hl => ?_, ⟨fun d g hg => hH.bxd.1 d g hg, hH.bxd.2⟩, fun σ top sz q => ?_, fun g x hg => ?_, ⟨hH.av.1, fun g hg => ?_⟩, ?_⟩
    · simp [boxesOf, boxesFrom, lookB] at hl
    · simp [lookS] at q
    · exact ⟨Nat.lt_of_lt_of_le (hH.ow g x hg).1 hb.size, (hH.ow g x hg).2⟩
    · exact ⟨Nat.lt_of_lt_of_le (hH.av.2 g hg).1 hb.size, (hH.av.2 g hg).2⟩
    · exact ⟨hb.os, hb.tape, hb.output, hb.size, fun g hg _ => hb.block g hg, fun g t ⟨c, fr, q⟩ => ⟨c, fr, by rw [hb.block g (Array.getElem?_eq_some_iff.1 q).1]; exact q⟩⟩
  · rw [hs]; exact h5
theorem flat_strs : ∀ l : List (List UInt8), flat (l.map V.str) = l.map V.str
  | [] => rfl
  | x :: r => by
    have := flat_strs r
    simp only [flat] at this
    simp [flat, V.cells, this]
theorem Split_ok (s : List UInt8) (c : UInt8) (hs : s.length < 1000000) : Fn Tryz.prog fn_strings_Split [.str s, .str [c]] [] (.sl none 1 ((cutAll c s).map V.str)) [] := by
  refine Fn.of_below2 rfl rfl fun w γ vs hT hO hc => ?_
  obtain ⟨v, u, rfl, hv, hu⟩ := arg2 hc
  obtain ⟨s', rfl, rfl⟩ := hv.str_inv
  obtain ⟨c', rfl, hc'⟩ := hu.str_inv
  have hc1 : c'.size = 1 := by
    have : c'.data.toList.length = 1 := by rw [hc']; rfl
    simpa using this
  obtain ⟨_, m, hm⟩ := hT.maxLen
  have hs1 : s'.size < 1000000 := by simpa using hs
  refine (Tryz.strings_Split s' c' m w (by omega) hm (by omega)).mono fun e w' hex => ?_
  obtain ⟨rfl, rfl⟩ := hex
  have hcnt : Lib.countB s' c' = s'.data.toList.count c := by
    show Lib.count _ _ = _
    rw [hc', Lib.count_one]
  have hlist : (Lib.splitB c' 0 (Lib.countB s' c') s').map (·.data.toList) = cutAll c s'.data.toList := by
    rw [Lib.splitB_data, hcnt, hc', splitK_cut c _ _ rfl]
  have hlen : (cutAll c s'.data.toList).length = Lib.countB s' c' + 1 := by rw [cutAll_count, hcnt]
  have hle := List.count_le_length (a := c) (l := s'.data.toList)
  have hll : (Lib.splitB c' 0 (Lib.countB s' c') s').length = Lib.countB s' c' + 1 := by rw [← hlen, ← hlist]; simp
  generalize Lib.splitB c' 0 (Lib.countB s' c') s' = L at *
  generalize cutAll c s'.data.toList = C at *
  subst hlist
  refine ⟨_, rfl, ⟨rfl, rfl, rfl, ?_, fun g hg => ?_⟩, ?_⟩
  · show w.heap.size ≤ (w.heap.push _).size
    simp
  · show (w.heap.push _)[g]? = w.heap[g]?
    rw [Array.getElem?_push, if_neg (by omega)]
  · have e1 : Lib.countB s' c' + 1 = ((L.map (·.data.toList)).map V.str).length := by simp [hll]
    rw [e1]
    refine .base (.sl 1 _ w.heap.size 0 _ (L.map Value.string).toArray 9 (0, 0) (L.map Value.string) ?_ (fun h => absurd (hO _ h) (by omega)) (Nat.le_refl _) ?_ ?_ ?_ ?_ ?_ ?_)
    · show (w.heap.push _)[w.heap.size]? = _
      rw [Array.getElem?_push, if_pos rfl]
    · rw [← e1, hcnt]
      have : s'.data.toList.length < 1000000 := hs
      unfold maxLen
      omega
    · intro x hx
      obtain ⟨y, _, rfl⟩ := List.mem_map.1 hx
      rfl
    · rw [flat_strs]; simp
    · intro k hk
      simp at hk ⊢
    · intro u hu
      obtain ⟨y, _, rfl⟩ := List.mem_map.1 hu
      rfl
    · intro k h1 h2
      have : (flat ((L.map (·.data.toList)).map V.str))[k] = V.str ((L[k]'(by simpa using h2)).data.toList) := by
        have q := flat_strs (L.map (·.data.toList))
        simp only [q]
        simp
      rw [this]
      simp only [List.getElem_map]
      exact .str _ _ rfl
theorem impl_wordNumber_ok (l : List UInt8) : Fn Tryz.prog fn_impl_wordNumber [.str l] [] (.int .i64 (numS l)) [] := by
  refine Fn.of_go ln_impl_wordNumber rfl ?_
  simp [ac_impl_wordNumber]
  refine goCall_eq (smallNumber_ok l) (by simp) ?_
  cases h : smallOk l
  · simp
    exact Ends.mk [] [] (by simp [numS, h])
  · simp
    exact Ends.mk [] [] (by simp [numS, h])
end
section
set_option maxRecDepth 200000
set_option maxHeartbeats 8000000
attribute [-simp] List.getD_eq_getElem?_getD
structure Desk where
  talk : Talk
  recs : List Tap
def tDrop : List UInt8 := [100, 114, 111, 112]
def tTwice : List UInt8 := [116, 119, 105, 99, 101]
def tCut : List UInt8 := [99, 117, 116]
def tFlip : List UInt8 := [102, 108, 105, 112]
def cutT (s : List UInt8) : List UInt8 := s.take (s.length - 1)
def flipT (s : List UInt8) : List UInt8 := s.take (s.length - 1) ++ [UInt8.ofNat (bitsV BinOp.xor IntKind.u8 ((s.getD (s.length - 1) 0).toNat : Nat) 1).toNat]
theorem setEl_tap {l : List Tap} {i : Nat} (hi : i < l.length) (x : List UInt8) : setEl i 1 [.str x] (l.map Tap.v) = (l.set i ⟨(nth l i).time, x⟩).map Tap.v := by
  unfold setEl
  have e : (l.map Tap.v).getD i .undef = Tap.v (nth l i) := by rw [nth_eq hi, List.getD_eq_getElem?_getD, List.getElem?_map, List.getElem?_eq_getElem hi]; rfl
  rw [e, List.map_set]
  rfl
def changeR (l : List Tap) (w : List UInt8) (k : Int) : Option (List Tap) :=
  if k < 0 ∨ (l.length : Int) ≤ k then none
  else if w = tDrop then some (l.take k.toNat ++ l.drop (k.toNat + 1))
  else if w = tTwice then (if 60 ≤ l.length then none else some (l.take (k.toNat + 1) ++ [nth l k.toNat] ++ l.drop (k.toNat + 1)))
  else if (nth l k.toNat).text.length = 0 then none
  else if w = tCut then some (l.set k.toNat ⟨(nth l k.toNat).time, cutT (nth l k.toNat).text⟩)
  else some (l.set k.toNat ⟨(nth l k.toNat).time, flipT (nth l k.toNat).text⟩)
def deskC (t : Talk) (l : List Tap) : List V := t.cells ++ [.sl (some 0) 2 (l.map Tap.v)]
theorem change_ok (t : Talk) (l : List Tap) (w : List UInt8) (k : Int) (hk : k ≤ 1000000) (hl : l.length ≤ 60) (ht : ∀ r ∈ l, r.text.length ≤ 1000) : Fn Tryz.prog fn_impl_desk_change [.ptr 1000 0, .str w, .int .i64 k] [deskC t l] (.bool (changeR l w k).isSome) [deskC t ((changeR l w k).getD l)] := by
  refine Fn.of_go ln_impl_desk_change rfl ?_
  simp [ac_impl_desk_change, deskC, Talk.cells, Hello.cells]
  by_cases h0 : k < 0
  · have e : changeR l w k = none := by simp [changeR, h0]
    simp [h0]
    exact Ends.mk [(0, some 0, l.length, 2)] [(1000, 1000)] (by simp [e, Talk.cells, Hello.cells])
  obtain ⟨i, rfl⟩ : ∃ i : Nat, k = i := ⟨k.toNat, by omega⟩
  simp [h0]
  refine goTest_dec (fun h1 => ?_) (fun h1 => ?_)
  · have e : changeR l w i = none := by simp [changeR]; intro _; omega
    simp
    exact Ends.mk [(0, some 0, l.length, 2)] [(1000, 1000)] (by simp [e, Talk.cells, Hello.cells])
  have hi : i < l.length := by omega
  have hc : changeR l w i = if w = tDrop then some (l.take i ++ l.drop (i + 1))
    else if w = tTwice then (if 60 ≤ l.length then none else some (l.take (i + 1) ++ [nth l i] ++ l.drop (i + 1)))
    else if (nth l i).text.length = 0 then none
    else if w = tCut then some (l.set i ⟨(nth l i).time, cutT (nth l i).text⟩)
    else some (l.set i ⟨(nth l i).time, flipT (nth l i).text⟩) := by
      unfold changeR
      rw [if_neg (by omega)]
      simp
  have hn : nth l i ∈ l := nth_mem hi
  simp [hi, rec_v, Talk.cells, Hello.cells]
  have htx := ht _ hn
  have hz : ∀ j, ∀ z : V, z ∈ List.drop j (List.map Tap.v l) → z.cells.length = 2 := fun j z hz => by
    obtain ⟨r, _, rfl⟩ := List.mem_map.1 (List.mem_of_mem_drop hz)
    rfl
  have htk : List.take l.length (List.map Tap.v l) = List.map Tap.v l := List.take_of_length_le (by simp)
  have hmin : min i l.length = i := by omega
  have hmin2 : min (i + 1) l.length = i + 1 := by omega
  have hzt : ∀ j, ∀ z : V, z ∈ List.take j (List.map Tap.v l) → z.cells.length = 2 := fun j z hz => by
    obtain ⟨r, _, rfl⟩ := List.mem_map.1 (List.mem_of_mem_take hz)
    rfl
  simp only [V.cells] at hz hzt
  refine ⟨by omega, ?_⟩
  by_cases w1 : w = tDrop
  · have e : changeR l w i = some (l.take i ++ l.drop (i + 1)) := by rw [hc, if_pos w1]
    have w1' : w = [100, 114, 111, 112] := w1
    simp [w1', htk]
    refine ⟨by omega, by omega, by omega, ⟨hz _, by unfold roomOk; omega⟩, ?_⟩
    rw [← w1', e]
    exact Ends.mk [(0, some 784, i + (l.length - (i + 1)), 2)] [(1000, 1000)] (by simp [Talk.cells, Hello.cells, hmin])
  by_cases w2 : w = tTwice
  · rw [if_neg w1, if_pos w2] at hc
    have w1' : ¬ w = [100, 114, 111, 112] := w1
    have w2' : w = [116, 119, 105, 99, 101] := w2
    simp [w1', w2', htk]
    refine goTest_dec (fun q => ?_) (fun q => ?_)
    · rw [if_pos q] at hc
      simp [← w2', hc]
      exact Ends.mk [(0, some 0, l.length, 2)] [(1000, 1000)] (by simp [Talk.cells, Hello.cells])
    · rw [if_neg q] at hc
      simp [hmin2, rec_v, htk]
      refine ⟨by omega, by omega, ⟨hzt _, by unfold roomOk; omega⟩, by unfold roomOk; omega, by omega, by omega, ⟨hz _, by unfold roomOk; omega⟩, ?_⟩
      rw [← w2', hc]
      exact Ends.mk [(0, some 960, i + 1 + 1 + (l.length - (i + 1)), 2)] [(1000, 1000)] (by simp [Talk.cells, Hello.cells, hmin2, rec_v]; omega)
  have w1' : ¬ w = [100, 114, 111, 112] := w1
  have w2' : ¬ w = [116, 119, 105, 99, 101] := w2
  rw [if_neg w1, if_neg w2] at hc
  by_cases h3 : (nth l i).text.length = 0
  · rw [if_pos h3] at hc
    by_cases w3 : w = tCut
    · have w3' : w = [99, 117, 116] := w3
      simp [w1', w2', w3', htk]
      refine goTest_dec (fun q => ?_) (fun q => by omega)
      simp [← w3', hc]
      exact Ends.mk [(0, some 0, l.length, 2)] [(1000, 1000)] (by simp [Talk.cells, Hello.cells])
    · have w3' : ¬ w = [99, 117, 116] := w3
      simp [w1', w2', w3', htk]
      refine goTest_dec (fun q => ?_) (fun q => by omega)
      simp [hc]
      exact Ends.mk [(0, some 0, l.length, 2)] [(1000, 1000)] (by simp [Talk.cells, Hello.cells])
  rw [if_neg h3] at hc
  by_cases w3 : w = tCut
  · have w3' : w = [99, 117, 116] := w3
    rw [if_pos w3] at hc
    simp [w1', w2', w3', htk]
    refine goTest_dec (fun q => by omega) (fun q => ?_)
    simp [htk]
    refine ⟨by omega, hi, ?_⟩
    rw [← w3', hc, setEl_tap hi]
    exact Ends.mk [(0, some 0, l.length, 2)] [(1000, 1000)] (by simp [Talk.cells, Hello.cells, cutT])
  · have w3' : ¬ w = [99, 117, 116] := w3
    rw [if_neg w3] at hc
    simp [w1', w2', w3', htk]
    refine goTest_dec (fun q => by omega) (fun q => ?_)
    simp [htk]
    refine ⟨by omega, by omega, by omega, hi, ?_⟩
    rw [hc, setEl_tap hi]
    exact Ends.mk [(0, some 0, l.length, 2)] [(1000, 1000)] (by simp [Talk.cells, Hello.cells, flipT])
end
section
set_option maxRecDepth 200000
set_option maxHeartbeats 8000000
attribute [-simp] List.getD_eq_getElem?_getD
deriving instance DecidableEq, Inhabited for Msg
def openT : List Part → List UInt8 → List UInt8
  | [], t => t
  | d :: r, t => openT r (keptT d t ++ d.text)
theorem saidF_snoc : ∀ (l : List Part) (d : Part) (t : List UInt8), saidF (l ++ [d]) t = saidF l t ++ (if d.last then [⟨d.stream, d.ssn, d.loose, keptT d (openT l t) ++ d.text⟩] else [])
  | [], d, t => by simp only [List.nil_append, saidF, openT]
  | e :: l, d, t => by
    simp only [List.cons_append, saidF, openT]
    cases e.last
    · simp [saidF_snoc l d]
    · simp [saidF_snoc l d]
theorem openT_snoc : ∀ (l : List Part) (d : Part) (t : List UInt8), openT (l ++ [d]) t = keptT d (openT l t) ++ d.text
  | [], d, t => rfl
  | e :: l, d, t => openT_snoc l d _
theorem saidF_len : ∀ (l : List Part) (t : List UInt8), (saidF l t).length ≤ l.length
  | [], t => Nat.le_refl _
  | d :: l, t => by
    have := saidF_len l (keptT d t ++ d.text)
    simp only [saidF]
    cases d.last
    · simp; omega
    · simp; omega
theorem keptT_len (d : Part) (t : List UInt8) : (keptT d t).length ≤ t.length := by
  unfold keptT; split <;> simp
theorem openT_len : ∀ (l : List Part) (t : List UInt8), (∀ d ∈ l, d.text.length ≤ 20) → (openT l t).length ≤ t.length + 20 * l.length
  | [], t, _ => by simp [openT]
  | d :: l, t, h => by
    have h1 := openT_len l (keptT d t ++ d.text) (fun e he => h e (List.mem_cons_of_mem _ he))
    have h2 := keptT_len d t
    have h3 := h d (List.mem_cons_self ..)
    simp only [openT, List.length_cons]
    rw [List.length_append] at h1
    omega
theorem side_texts {s : Side} (h : s.ok = true) : ∀ d ∈ s.sent, d.text.length ≤ 20 := by
  by_cases ht : s.tag = 0
  · have : s.sent = [] := ((side_zero ht).1 h).2.2.1
    simp [this]
  · have hp := ((side_iff ht).1 h).1
    intro d hd
    obtain ⟨i, hi, e⟩ := List.getElem_of_mem hd
    have := allTo_iff.1 hp i hi
    simp only [partAt, Bool.and_eq_true] at this
    have := (part_facts this.1.1.1).2.2.2.2
    rw [nth_eq hi, e] at this
    exact this
theorem saidIn_ok (l : List Part) (hl : l.length ≤ 1000) (ht : ∀ d ∈ l, d.text.length ≤ 20) : Fn Tryz.prog fn_impl_saidIn [psl l] [] (.sl none 4 ((saidF l []).map mV)) [] := by
  refine Fn.of_go ln_impl_saidIn rfl ?_
  simp [ac_impl_saidIn, psl]
  refine go_loop (fun i : Nat => { env := [(3, .sl (some 0) 4 ((saidF (l.take i) []).map mV)), (4, .str (openT (l.take i) [])), (8, psl l), (9, .int .i64 (l.length : Nat)), (10, .int .i64 (i : Nat))], loc := [], box := [], stat := [(0, some (.own (saidF (l.take i) []).length 4))] }) (fun i => i ≤ l.length) (fun i => l.length - i) 0 (by omega) (Weak.of [(0, some 112, 0, 4)] [] (by simp [psl, saidF, openT])) ?_
  intro i hi
  simp [psl]
  refine goTest_dec (fun hlt => ?_) (fun hge => ?_)
  · have hsn := saidF_snoc (l.take i) (nth l i) []
    have hop := openT_snoc (l.take i) (nth l i) []
    rw [← take_nth hlt] at hsn hop
    have h1 := openT_len (l.take i) [] (fun d hd => ht d (List.mem_of_mem_take hd))
    have h2 := saidF_len (l.take i) []
    have h3 := ht _ (nth_mem hlt)
    have h4 : (l.take i).length = i := by simp; omega
    rw [h4] at h1 h2
    simp only [List.length_nil] at h1
    simp [hlt, pt_v]
    generalize openT (l.take i) [] = t at *
    generalize saidF (l.take i) [] = M at *
    generalize nth l i = d at *
    have hm : mV ⟨d.stream, d.ssn, d.loose, keptT d t ++ d.text⟩ = .agg [.int .i64 d.stream, .int .i64 d.ssn, .bool d.loose, .str (keptT d t ++ d.text)] := rfl
    cases e1 : d.first
    · have ek : keptT d t = t := by unfold keptT; rw [e1]; rfl
      rw [ek] at hsn hop hm
      simp
      refine ⟨by omega, ?_⟩
      cases e2 : d.last
      · rw [e2] at hsn
        simp at hsn
        simp
        exact ⟨by omega, Again.mk (i + 1) hlt (by omega) (Weak.of [(0, some 0, M.length, 4)] [] (by simp [psl, hsn, hop]))⟩
      · rw [e2] at hsn
        simp only [if_true] at hsn
        simp
        exact ⟨by unfold roomOk; omega, by omega, Again.mk (i + 1) hlt (by omega) (Weak.of [(0, some 0, M.length + 1, 4)] [] (by simp [psl, hsn, hop, hm]))⟩
    · have ek : keptT d t = [] := by unfold keptT; rw [e1]; rfl
      rw [ek] at hsn hop hm
      simp only [List.nil_append] at hsn hop hm
      simp
      refine ⟨by omega, ?_⟩
      cases e2 : d.last
      · rw [e2] at hsn
        simp at hsn
        simp
        exact ⟨by omega, Again.mk (i + 1) hlt (by omega) (Weak.of [(0, some 0, M.length, 4)] [] (by simp [psl, hsn, hop]))⟩
      · rw [e2] at hsn
        simp only [if_true] at hsn
        simp
        exact ⟨by unfold roomOk; omega, by omega, Again.mk (i + 1) hlt (by omega) (Weak.of [(0, some 0, M.length + 1, 4)] [] (by simp [psl, hsn, hop, hm]))⟩
  · obtain rfl : i = l.length := by omega
    simp
    exact Ends.mk [] [] (by simp)
theorem SideSaid_ok (s : Side) (hb : s.bd) (h : s.ok = true) : Fn Tryz.prog fn_impl_SideSaid [s.v] [] (.sl none 4 ((saidS s).map mV)) [] := by
  refine Fn.of_go ln_impl_SideSaid rfl ?_
  have f1 := impl_SideValid_ok s hb
  have f2 := saidIn_ok s.sent (by have := (Side.ok_first h).2.1; omega) (side_texts h)
  have e : saidS s = saidF s.sent [] := by unfold saidS; rw [if_pos h]
  rw [h] at f1
  rw [e]
  simp only [side_v, psl] at f1 f2
  simp [ac_impl_SideSaid, side_v]
  refine goCall_eq f1 (by simp) ?_
  simp
  refine goCall_eq f2 (by simp) ?_
  simp
  exact Ends.mk [] [] (by simp)
theorem SideKnown_ok (s : Side) (hb : s.bd) (h : s.ok = true) : Fn Tryz.prog fn_impl_SideKnown [s.v] [] (.sl none 4 ((knownS s).map mV)) [] := by
  refine Fn.of_go ln_impl_SideKnown rfl ?_
  have f1 := impl_SideValid_ok s hb
  have hf := Side.ok_first h
  have f2 := saidIn_ok (s.sent.take s.acked.toNat) (by simp; omega) (fun d hd => side_texts h d (List.mem_of_mem_take hd))
  have e : knownS s = saidF (s.sent.take s.acked.toNat) [] := by unfold knownS; rw [if_pos h]
  rw [h] at f1
  rw [e]
  simp only [side_v, psl, List.map_take] at f1 f2
  simp [ac_impl_SideKnown, side_v]
  refine goCall_eq f1 (by simp) ?_
  simp
  refine ⟨by omega, ?_⟩
  refine goCall_eq f2 (by simp) ?_
  simp
  exact Ends.mk [] [] (by simp)
end
end Go.Proofs.YtjkbbdmkgealfaaGreatDoor
