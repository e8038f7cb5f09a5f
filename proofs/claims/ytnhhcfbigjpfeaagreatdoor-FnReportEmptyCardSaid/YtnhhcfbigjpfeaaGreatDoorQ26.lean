/-
  Talks, by the reference: which are valid; parts.
  Talks, by the reference: parts.
  Talks, by the reference: packets, records.
  Talks, by the reference: all packets, records.
  Talks, by the reference: records.
  Talks drawn.
  Monitors, by the reference.
-/
import Derived.Test.YtnhhcfbigjpfeaaGreatDoorQ25
namespace Go.Proofs.YtnhhcfbigjpfeaaGreatDoor
set_option linter.all false

section
set_option maxRecDepth 200000
set_option maxHeartbeats 4000000
attribute [-simp] List.getD_eq_getElem?_getD

theorem tdiv_many {n z : Nat} (hz : 1 ≤ z) : ((n : Int) + z - 1).tdiv z = (manyN n z : Nat) := by
  rw [show ((n : Int) + z - 1) = ((n + z - 1 : Nat) : Int) by omega]
  rfl

theorem l41Many_ok (t : List UInt8) (z : Nat) (hz : 1 ≤ z) (hz2 : z ≤ 1000000) (ht : t.length ≤ 1000000) : Fn Tryz.prog fn_spec_l41Many [.str t, .int .i64 z] [] (.int .i64 (manyN t.length z : Nat)) [] := by
  refine Fn.of_go ln_spec_l41Many rfl ?_
  have e := tdiv_many (n := t.length) hz
  have hm := many_le (n := t.length) hz
  simp [ac_spec_l41Many, e]
  repeat' (first | (refine And.intro (by omega) ?_))
  exact Ends.mk [] [] (by simp)

theorem bad_head {t : Talk} (h : t.head = false) : t.ok = false := by simp [Talk.ok, h]
theorem bad_say {t : Talk} {i : Nat} (hi : i < t.says.length) (h : sayOk t (nth t.says i) = false) : t.ok = false := by
  have := all_false hi h
  simp [Talk.ok, this]

theorem spec_TalkValid_ok (t : Talk) (hb : t.bd) : Fn Tryz.prog fn_spec_TalkValid [t.v] [] (.bool t.ok) [] := by
  refine Fn.of_go ln_spec_TalkValid rfl ?_
  have f1 := l12Init_ok t.a
  have f2 := l12Init_ok t.b
  simp only [hi_v] at f1 f2
  have hbad := bad_head (t := t)
  simp [ac_spec_TalkValid, talk_v]
  refine goCall_eq (l6In_ok _ _ _) (by simp) ?_
  cases q1 : inB t.src 1 65535
  · simp; exact Ends.mk [] [] (by simp [hbad (by simp [Talk.head, q1])])
  simp
  refine goCall_eq (l6In_ok _ _ _) (by simp) ?_
  cases q2 : inB t.dst 1 65535
  · simp; exact Ends.mk [] [] (by simp [hbad (by simp [Talk.head, q2])])
  simp
  cases q3 : decide (t.src = t.dst)
  rotate_left
  · simp; exact Ends.mk [] [] (by simp [hbad (by simp [Talk.head, of_decide_eq_true q3])])
  simp
  refine goCall_eq f1 (by simp) ?_
  cases q4 : t.a.ok
  · simp; exact Ends.mk [] [] (by simp [hbad (by simp [Talk.head, q4])])
  simp
  refine goCall_eq f2 (by simp) ?_
  cases q5 : t.b.ok
  · simp; exact Ends.mk [] [] (by simp [hbad (by simp [Talk.head, q5])])
  simp
  refine goCall_eq (l6In_ok _ _ _) (by simp) ?_
  cases q6 : inB t.size 1 20
  · simp; exact Ends.mk [] [] (by simp [hbad (by simp [Talk.head, q6])])
  simp
  have hhead : t.head = true := by simp [Talk.head, q1, q2, q4, q5, q6, of_decide_eq_false q3]
  have hz : 1 ≤ t.size ∧ t.size ≤ 20 := by simpa [inB] using q6
  obtain ⟨z, hze⟩ := Int.eq_ofNat_of_zero_le (show 0 ≤ t.size by omega)
  have hz1 : 1 ≤ z ∧ z ≤ 20 := by omega
  obtain ⟨sa, _, _, _, hsa⟩ := hello_facts q4
  obtain ⟨sb, _, _, _, hsb⟩ := hello_facts q5
  have hsz : t.size.toNat = z := by omega
  have hok : t.ok = (t.says.all (sayOk t) && decide (t.says.length ≤ 4) && decide (manyL z false t.says ≤ 12) && decide (manyL z true t.says ≤ 12)) := by
    simp [Talk.ok, hhead, hsz]
  refine go_loop (fun i => { env := [(1, .ptr 1 0), (3, .int .i64 (manyL z false (t.says.take i) : Nat)), (4, .int .i64 (manyL z true (t.says.take i) : Nat)), (5, .int .i64 (i : Nat))], loc := [], box := [(1, t.cells)], stat := [] }) (fun i => i ≤ t.says.length ∧ AllTake (sayOk t) t.says i) (fun i => t.says.length - i) 0 ⟨by omega, AllTake.zero⟩ (Weak.of [] [(1, 1)] (by simp [Talk.cells, Hello.cells, manyL])) ?_
  rintro i ⟨hi, hp⟩
  simp [Talk.cells, Hello.cells]
  refine goTest_dec (fun hlt => ?_) (fun hge => ?_)
  · have hsay := bad_say (t := t) hlt
    have ma := manyL_take (z := z) (b := false) hlt
    have mb := manyL_take (z := z) (b := true) hlt
    have la := manyL_le hz1.1 false (m := 100000) (t.says.take i) (fun x hx => hb.text x (List.mem_of_mem_take hx))
    have lb := manyL_le hz1.1 true (m := 100000) (t.says.take i) (fun x hx => hb.text x (List.mem_of_mem_take hx))
    have hsl := hb.says
    have htx := hb.text _ (nth_mem hlt)
    have hmn := many_le (n := (nth t.says i).text.length) hz1.1
    have g1 := l41Many_ok (nth t.says i).text z hz1.1 (by omega) (by omega)
    have hlen : (t.says.take i).length = i := by simp; omega
    rw [hlen] at la lb
    have hsd : sayOk t (nth t.says i) = (inB (nth t.says i).text.length 1 60 && (if (nth t.says i).byB then inB (nth t.says i).stream 0 (t.b.streams - 1) else inB (nth t.says i).stream 0 (t.a.streams - 1))) := rfl
    simp [hlt, say_v, hze]
    generalize hx : nth t.says i = x at *
    cases hbb : x.byB
    all_goals
      simp [hbb] at ma mb hsd
      refine goCall_eq (l6In_ok _ _ _) (by simp) ?_
      cases r1 : inB x.text.length 1 60
      · simp; exact Ends.mk [] [] (by simp [hsay (by simp [hsd, r1])])
      simp [hbb]
      refine ⟨by omega, ?_⟩
      refine goCall_eq (l6In_ok _ _ _) (by simp) ?_
      generalize r2 : inB x.stream _ _ = rb2 at *
      cases rb2
      · simp; exact Ends.mk [] [] (by simp [hsay (by simp [hsd, r2])])
      simp [hbb]
      refine goCall_eq g1 (by simp) ?_
      simp
      refine ⟨by omega, by omega, Again.mk (i + 1) ⟨hlt, hp.succ hlt (by rw [hx, hsd]; simp [r1])⟩ (by omega) (Weak.of [] [(1, 1)] (by simp [ma, mb]))⟩
  · obtain rfl : i = t.says.length := by omega
    have hall := hp.all
    rw [hok, hall]
    simp
    repeat' (first
      | (refine goTest_dec (fun q => ?_) (fun q => ?_) <;> simp [q])
      | (refine Ends.mk [] [] ?_; simp [*] <;> fail)
      | (refine Ends.mk [] [] ?_; simp [*] <;> omega))
end

section
set_option maxRecDepth 200000
set_option maxHeartbeats 4000000
attribute [-simp] List.getD_eq_getElem?_getD

/-- The parts of the first messages. -/
def partsI (t : Talk) (byB : Bool) (i : Nat) : List Part := (t.says.take i).foldl (sayF t.size.toNat (t.tsn byB) byB) []
theorem partsI_succ {t : Talk} {byB : Bool} {i : Nat} (h : i < t.says.length) : partsI t byB (i + 1) = sayF t.size.toNat (t.tsn byB) byB (partsI t byB i) (nth t.says i) := by
  unfold partsI; rw [take_nth h, List.foldl_append]; rfl
theorem partsI_len {t : Talk} (hc : TalkC t) (byB : Bool) (i : Nat) : (partsI t byB i).length + manyL t.size.toNat byB (t.says.drop i) ≤ 12 := by
  have h1 := hc.size
  unfold partsI
  rw [fold_len (by omega)]
  have e : manyL t.size.toNat byB t.says = manyL t.size.toNat byB (t.says.take i) + manyL t.size.toNat byB (t.says.drop i) := by rw [← manyL_append, List.take_append_drop]
  have := hc.ma
  have := hc.mb
  cases byB <;> simp <;> omega
theorem partsI_all (t : Talk) (byB : Bool) : partsI t byB t.says.length = partsT t byB := by simp [partsI, partsT]

theorem pieces_end {z : Nat} {first : Int} {x : Say} {ssn : Int} {f i : Nat} {out : List Part} (h : ¬ i < x.text.length) : piecesF z first x ssn f i out = out := by
  cases f with
  | zero => rfl
  | succ f => unfold piecesF; rw [if_neg h]

theorem pieces_go {z : Nat} {first : Int} {x : Say} {ssn : Int} {f i : Nat} {out : List Part} (h : i < x.text.length) : piecesF z first x ssn (f + 1) i out = piecesF z first x ssn f (i + z) (out ++ [⟨addS first out.length, x.stream, ssn, decide (i = 0), decide (min (i + z) x.text.length = x.text.length), x.loose, (x.text.take (min (i + z) x.text.length)).drop i⟩]) := by
  rw [piecesF, if_pos h]

theorem l41Parts_ok (t : Talk) (byB : Bool) (hc : TalkC t) : Fn Tryz.prog fn_spec_l41Parts [t.v, .bool byB] [] (psl (partsT t byB)) [] := by
  refine Fn.of_go ln_spec_l41Parts rfl ?_
  have hz := hc.size
  obtain ⟨z, hze⟩ := Int.eq_ofNat_of_zero_le (show 0 ≤ t.size by omega)
  have hz1 : 1 ≤ z ∧ z ≤ 20 := by omega
  have hsz : t.size.toNat = z := by omega
  have ha := hello_facts hc.a
  have hbF := hello_facts hc.b
  have hfirst : 0 ≤ t.tsn byB ∧ t.tsn byB ≤ 65535 := by cases byB <;> simp [Talk.tsn] <;> omega
  have h0 : partsI t byB 0 = [] := by simp [partsI]
  have hpl := partsI_len hc byB
  have hps := fun i => partsI_succ (t := t) (byB := byB) (i := i)
  have hlens := hc.says
  rw [hsz] at hpl hps
  rw [← partsI_all]
  have hta : byB = false → t.a.tsn = t.tsn byB := by rintro rfl; rfl
  have htb : byB = true → t.b.tsn = t.tsn byB := by rintro rfl; rfl
  generalize t.tsn byB = first at *
  have key : ∀ st, Weak st { env := [(1, .bool byB), (2, .ptr 2 0), (5, .int .i64 first), (6, .sl (some 0) 7 []), (7, .int .i64 ((0 : Nat) : Int))], loc := [], box := [(2, t.cells)], stat := [(0, some (.own 0 7))] } → True := fun _ _ => trivial
  simp [ac_spec_l41Parts, talk_v]
  refine goTest_bool (fun hb => ?_) (fun hb => ?_)
  all_goals
    first
      | have hq := htb hb
      | have hq := hta hb
    simp [hq]
    refine go_loop (fun i => { env := [(1, .bool byB), (2, .ptr 2 0), (5, .int .i64 first), (6, .sl (some 0) 7 ((partsI t byB i).map Part.v)), (7, .int .i64 (i : Nat))], loc := [], box := [(2, t.cells)], stat := [(0, some (.own (partsI t byB i).length 7))] }) (fun i => i ≤ t.says.length) (fun i => t.says.length - i) 0 (by omega) (Weak.of [(0, some 320, 0, 7)] [(2, 2)] (by simp [Talk.cells, Hello.cells, h0, hq])) ?_
    clear hq hta htb
    intro i hi
    have hle := hpl i
    simp [Talk.cells, Hello.cells]
    refine goTest_dec (fun hlt => ?_) (fun hge => ?_)
    · have hs := hps i hlt
      have htx := hc.text _ (nth_mem hlt)
      rw [manyL_drop hlt] at hle
      simp [hlt, say_v]
      generalize hx : nth t.says i = x at *
      generalize partsI t byB i = o at *
      have hssn := l31Ssn_ok o x.stream (by omega)
      simp only [psl] at hssn
      have hsf : sayF z first byB o x = if x.byB = byB then piecesF z first x (ssnF x o) x.text.length 0 o else o := rfl
      refine goTest_bool (fun hl => ?_) (fun hl => ?_)
      all_goals
        simp
        try
          refine goCall_gen [] [] [] [0] none hssn (by simp) ?_
          simp
        refine go_loop (fun y : Nat × List Part => { env := [(1, .bool byB), (2, .ptr 2 0), (5, .int .i64 first), (6, .sl (some 0) 7 (y.2.map Part.v)), (7, .int .i64 (i : Nat)), (8, .ptr 8 0), (9, .int .i64 (ssnF x o)), (10, .int .i64 (y.1 : Nat))], loc := [], box := [(2, t.cells), (8, x.cells)], stat := [(0, some (.own y.2.length 7))] })
          (fun y => y.1 ≤ x.text.length + z ∧ (if x.byB = byB then y.2.length + manyN (x.text.length - y.1) z ≤ 12 ∧ ∃ f, x.text.length - y.1 ≤ f ∧ piecesF z first x (ssnF x o) f y.1 y.2 = sayF z first byB o x else y.2 = o)) (fun y => x.text.length + z - y.1) (0, o)
          ⟨by simp, by
            by_cases q : x.byB = byB
            · rw [if_pos q] at hle ⊢
              exact ⟨by simp; omega, _, Nat.le_refl _, by rw [hsf, if_pos q]; rfl⟩
            · rw [if_neg q]⟩ (Weak.of [(0, some 0, o.length, 7)] [(2, 2), (8, 8)] (by simp [Talk.cells, Hello.cells, Say.cells, ssnF, hl])) ?_
        rintro ⟨j, out⟩ ⟨h1, h2⟩
        simp only at h1 h2
        have done : ¬ j < x.text.length ∨ ¬ x.byB = byB → out = sayF z first byB o x := by
          intro h
          by_cases q : x.byB = byB
          · rw [if_pos q] at h2
            obtain ⟨_, f, _, hp⟩ := h2
            rw [← hp, pieces_end (by rcases h with h | h; exact h; exact absurd q h)]
          · rw [if_neg q] at h2
            rw [hsf, if_neg q, h2]
        simp [Talk.cells, Hello.cells, Say.cells]
        refine goTest_dec (fun hj => ?_) (fun hj => ?_)
        rotate_left
        · have hd := done (Or.inl hj)
          simp [hj]
          exact ⟨by omega, Again.mk (i + 1) hlt (by omega) (Weak.of [(0, some 0, out.length, 7)] [(2, 2)] (by simp [Talk.cells, Hello.cells, hs, hd]))⟩
        simp [hj]
        refine goTest_bool (fun hbb => ?_) (fun hbb => ?_)
        rotate_left
        · have hd := done (Or.inr (by simpa using hbb))
          simp
          exact ⟨by omega, Again.mk (i + 1) hlt (by omega) (Weak.of [(0, some 0, out.length, 7)] [(2, 2)] (by simp [Talk.cells, Hello.cells, hs, hd]))⟩
        have hbb2 : x.byB = byB := by simpa using hbb
        rw [if_pos hbb2, many_step hz1.1 hj] at h2
        obtain ⟨h3, f, hf, hp⟩ := h2
        obtain ⟨g, rfl⟩ : ∃ g, f = g + 1 := ⟨f - 1, by omega⟩
        rw [pieces_go hj] at hp
        have hadd := l3Add_ok first out.length (by omega) (by omega) (by omega)
        obtain ⟨e, he⟩ : ∃ e, min (j + z) x.text.length = e := ⟨_, rfl⟩
        have he2 : (if (x.text.length : Int) < (j : Int) + z then (x.text.length : Int) else (j : Int) + z) = (e : Nat) := by split <;> omega
        rw [he] at hp
        simp [hze, he2]
        refine ⟨by omega, ?_⟩
        refine goDCall_eq hadd (by simp) (by simp) ?_
        simp
        repeat' (first | (refine And.intro (by omega) ?_) | (refine And.intro (by unfold roomOk; omega) ?_) | fail)
        refine Again.mk (j + z, out ++ [⟨addS first out.length, x.stream, ssnF x o, decide (j = 0), decide (e = x.text.length), x.loose, (x.text.take e).drop j⟩]) ⟨by simp; omega, ?_⟩ (by simp; omega) (Weak.of [(0, some 0, out.length + 1, 7)] [(2, 2), (8, 8)] ?_)
        · rw [if_pos hbb2]
          exact ⟨by simp; omega, g, by simp; omega, hp⟩
        · simp [Talk.cells, Hello.cells, Say.cells, pt_v, hze, ssnF, hl]
    · obtain rfl : i = t.says.length := by omega
      simp
      exact Ends.mk [] [] (by simp [psl])
end

section
set_option maxRecDepth 200000
set_option maxHeartbeats 8000000
attribute [-simp] List.getD_eq_getElem?_getD

theorem opt_get (o : Option Chunk) : optV zChunk.v Chunk.v o = .tup [(o.getD zChunk).v, .bool o.isSome] := by cases o <;> rfl

theorem packT_v (t : Talk) (b : Bool) (l : List Chunk) : (packT t b l).v = .agg [.int .i64 (if b then t.dst else t.src), .int .i64 (if b then t.src else t.dst), .int .i64 (if b then t.a.tag else t.b.tag), .sl none 3 (l.map Chunk.v)] := by cases b <;> rfl

theorem l41Packet_ok (t : Talk) (b : Bool) (l : List Chunk) : Fn Tryz.prog fn_spec_l41Packet [t.v, .bool b, .sl none 3 (l.map Chunk.v)] [] (packT t b l).v [] := by
  refine Fn.of_go ln_spec_l41Packet rfl ?_
  rw [packT_v]
  cases b
  · simp [ac_spec_l41Packet, talk_v]
    exact Ends.mk [] [] (by simp)
  · simp [ac_spec_l41Packet, talk_v]
    exact Ends.mk [] [] (by simp)

theorem l41One_ok (t : Talk) (b : Bool) (k : Int) : Fn Tryz.prog fn_spec_l41One [t.v, .bool b, .int .i64 k] [] (oneT t b k).v [] := by
  refine Fn.of_go ln_spec_l41One rfl ?_
  have f1 := l41Packet_ok t b [⟨k, 0, []⟩]
  have e : oneT t b k = packT t b [⟨k, 0, []⟩] := rfl
  rw [e, packT_v]
  rw [packT_v] at f1
  simp only [talk_v] at f1
  simp [ac_spec_l41One, talk_v]
  refine goCall_gen [] [] [176] [] none f1 (by simp [chunk_v]) ?_
  simp
  exact Ends.mk [] [] (by simp)

theorem oneT_v (t : Talk) (b : Bool) (k : Int) : (oneT t b k).v = .agg [.int .i64 (if b then t.dst else t.src), .int .i64 (if b then t.src else t.dst), .int .i64 (if b then t.a.tag else t.b.tag), .sl none 3 [.agg [.int .i64 k, .int .i64 0, .str []]]] := by cases b <;> rfl

theorem l41Hello_ok (t : Talk) : Fn Tryz.prog fn_spec_l41Hello [t.v] [] (.sl (some 0) 4 ((helloT t).map Packet.v)) [] := by
  refine Fn.of_go ln_spec_l41Hello rfl ?_
  have p1 := spec_InitPut_ok t.a false
  have p2 := spec_InitPut_ok t.b true
  rw [opt_get] at p1 p2
  have e : (helloT t).map Packet.v = [.agg [.int .i64 t.src, .int .i64 t.dst, .int .i64 0, .sl none 3 [((putHello t.a false).getD zChunk).v]], (packT t true [(putHello t.b true).getD zChunk]).v, (oneT t false 10).v, (oneT t true 11).v] := rfl
  rw [e]
  generalize (putHello t.a false).getD zChunk = c1 at *
  generalize (putHello t.b true).getD zChunk = c2 at *
  have f1 := l41Packet_ok t false [c1]
  have f2 := l41Packet_ok t true [c2]
  have f3 := l41One_ok t false 10
  have f4 := l41One_ok t true 11
  rw [packT_v] at f1 f2
  rw [oneT_v] at f3 f4
  rw [packT_v, oneT_v, oneT_v]
  simp only [talk_v, hi_v, chunk_v] at p1 p2 f1 f2 f3 f4
  simp [ac_spec_l41Hello, talk_v]
  refine goCall_eq p1 (by simp) ?_
  simp
  refine goCall_eq p2 (by simp) ?_
  simp
  refine goCall_gen [] [] [352] [] none f1 (by simp [chunk_v]) ?_
  simp
  refine goDCall_gen [] [] [448] [] none f2 (by simp [chunk_v]) (by simp) ?_
  simp
  refine goDCall_eq f3 (by simp) (by simp) ?_
  simp
  refine goDCall_eq f4 (by simp) (by simp) ?_
  simp
  exact Ends.mk [(0, some 544, 4, 4)] [] (by simp [chunk_v])
end

section
set_option maxRecDepth 200000
set_option maxHeartbeats 8000000
attribute [-simp] List.getD_eq_getElem?_getD

theorem spec_TalkPackets_ok (t : Talk) (hb : t.bd) : Fn Tryz.prog fn_spec_TalkPackets [t.v] [] (.sl none 4 ((packetsT t).map Packet.v)) [] := by
  refine Fn.of_go ln_spec_TalkPackets rfl ?_
  have v1 := spec_TalkValid_ok t hb
  have hP : packetsT t = if t.ok then saysF t t.says (partsT t false) (partsT t true) (helloT t) ++ [oneT t false 7, oneT t true 8, oneT t false 14] else [] := rfl
  generalize packetsT t = P at *
  have hh := l41Hello_ok t
  have hpa := l41Parts_ok t false
  have hpb := l41Parts_ok t true
  simp only [talk_v, psl] at v1 hh hpa hpb
  simp [ac_spec_TalkPackets, talk_v]
  refine goCall_eq v1 (by simp) ?_
  cases hok : t.ok
  · rw [hok, if_neg (by simp)] at hP
    subst hP
    simp
    exact Ends.mk [] [] (by simp)
  rw [hok, if_pos rfl] at hP
  have hc := talk_c hok
  have hz := hc.size
  obtain ⟨z, hze⟩ := Int.eq_ofNat_of_zero_le (show 0 ≤ t.size by omega)
  have hz1 : 1 ≤ z ∧ z ≤ 20 := by omega
  have hsz : t.size.toNat = z := by omega
  have hpa := hpa hc
  have hpb := hpb hc
  have la := parts_len hz.1 false
  have lb := parts_len hz.1 true
  have ma := hc.ma
  have mb := hc.mb
  have hsl := hc.says
  have hlh : (helloT t).length = 4 := rfl
  rw [hsz] at la lb ma mb
  obtain ⟨F, hF⟩ : ∃ F, saysF t t.says (partsT t false) (partsT t true) (helloT t) = F := ⟨_, rfl⟩
  rw [hF] at hP
  generalize hA : partsT t false = A0 at *
  generalize hB : partsT t true = B0 at *
  generalize hH : helloT t = H0 at *
  simp
  refine goCall_eq hh (by simp) ?_
  simp
  refine goCall_eq hpa (by simp) ?_
  simp
  refine goCall_eq hpb (by simp) ?_
  simp
  refine go_loop (fun x : Nat × List Part × List Part × List Packet => { env := [(1, .ptr 1 0), (3, .sl (some 0) 4 (x.2.2.2.map Packet.v)), (4, .sl none 7 (x.2.1.map Part.v)), (5, .sl none 7 (x.2.2.1.map Part.v)), (6, .int .i64 (x.1 : Nat))], loc := [], box := [(1, t.cells)], stat := [(0, some (.own x.2.2.2.length 4))] })
    (fun x => x.1 ≤ t.says.length ∧ saysF t (t.says.drop x.1) x.2.1 x.2.2.1 x.2.2.2 = F ∧ manyL z false (t.says.drop x.1) ≤ x.2.1.length ∧ manyL z true (t.says.drop x.1) ≤ x.2.2.1.length ∧ x.2.2.2.length + 2 * (manyL z false (t.says.drop x.1) + manyL z true (t.says.drop x.1)) ≤ 52) (fun x => t.says.length - x.1) (0, A0, B0, H0)
    ⟨by simp, by simpa using hF, by simp; omega, by simp; omega, by simp; omega⟩ (Weak.of [(0, some 304, 4, 4)] [(1, 1)] (by simp [Talk.cells, Hello.cells, hlh])) ?_
  rintro ⟨i, a, b, out⟩ ⟨hi, hS, h1, h2, h3⟩
  simp only at hi hS h1 h2 h3
  simp [Talk.cells, Hello.cells]
  refine goTest_dec (fun hlt => ?_) (fun hge => ?_)
  · have hd := drop_nth hlt
    rw [manyL_drop hlt] at h1 h2 h3
    rw [hd] at hS
    have htx := hc.text _ (nth_mem hlt)
    have g1 := l41Many_ok (nth t.says i).text z hz1.1 (by omega) (by omega)
    rw [manyL_drop hlt] at h3
    simp [hlt, say_v, hze]
    generalize nth t.says i = x at *
    unfold saysF at hS
    rw [hsz] at hS
    refine goCall_eq g1 (by simp) ?_
    cases hbb : x.byB
    · simp [hbb] at hS h1 h2 h3
      obtain ⟨pr, hpr⟩ : ∃ pr, sendF t false (manyN x.text.length z) a out = pr := ⟨_, rfl⟩
      rw [hpr] at hS
      have hmn := many_le (n := x.text.length) hz1.1
      simp
      refine go_loop (fun y : Nat × List Part × List Packet => { env := [(1, .ptr 1 0), (3, .sl (some 0) 4 (y.2.2.map Packet.v)), (4, .sl none 7 (y.2.1.map Part.v)), (5, .sl none 7 (b.map Part.v)), (6, .int .i64 (i : Nat)), (7, .bool false), (8, .int .i64 (y.1 : Nat))], loc := [], box := [(1, t.cells)], stat := [(0, some (.own y.2.2.length 4))] })
        (fun y => sendF t false y.1 y.2.1 y.2.2 = pr ∧ y.1 + manyL z false (t.says.drop (i + 1)) ≤ y.2.1.length ∧ y.2.2.length + 2 * y.1 + 2 * (manyL z false (t.says.drop (i + 1)) + manyL z true (t.says.drop (i + 1))) ≤ 52) (fun y => y.1) (manyN x.text.length z, a, out)
        ⟨hpr, by simp; omega, by simp; omega⟩ (Weak.of [(0, some 0, out.length, 4)] [(1, 1)] (by simp [Talk.cells, Hello.cells, hze])) ?_
      rintro ⟨k, m, o⟩ ⟨hk1, hk2, hk3⟩
      simp only at hk1 hk2 hk3
      simp [Talk.cells, Hello.cells]
      refine goTest_dec (fun hk => ?_) (fun hk => ?_)
      · obtain ⟨k, rfl⟩ : ∃ j, k = j + 1 := ⟨k - 1, by omega⟩
        have hm : 0 < m.length := by omega
        have htl : List.take m.length (m.map Part.v) = m.map Part.v := List.take_of_length_le (by simp)
        have w1 := spec_DataPut_ok (nth m 0)
        have w2 := spec_SackPut_ok ⟨(nth m 0).tsn, []⟩ (by simp)
        rw [opt_get] at w1 w2
        have f1 := l41Packet_ok t false [dataC (nth m 0)]
        have f2 := l41Packet_ok t true [sackC (nth m 0)]
        have e1 : (putPart (nth m 0)).getD zChunk = dataC (nth m 0) := rfl
        have e2 : (putSack ⟨(nth m 0).tsn, []⟩).getD zChunk = sackC (nth m 0) := rfl
        rw [e1] at w1
        rw [e2] at w2
        unfold sendF at hk1
        simp only [Bool.not_false, Bool.not_true] at hk1
        generalize dataC (nth m 0) = c1 at *
        generalize sackC (nth m 0) = c2 at *
        simp only [packT_v, talk_v, chunk_v, pt_v, sk_v, if_true, Bool.false_eq_true, if_false] at w1 w2 f1 f2
        simp [hm, htl, pt_v]
        refine ⟨by omega, ?_⟩
        refine goCall_eq w1 (by simp) ?_
        simp
        refine goCall_gen [] [] [] [] none w2 (by simp) ?_
        simp
        refine goDCall_gen [] [] [1248] [] none f1 (by simp [chunk_v]) (by simp) ?_
        simp
        refine goDCall_gen [] [] [1344] [] none f2 (by simp [chunk_v]) (by simp) ?_
        simp
        repeat' (first | (refine And.intro (by omega) ?_) | (refine And.intro (by unfold roomOk; omega) ?_) | fail)
        refine Again.mk (k, m.drop 1, o ++ [packT t false [c1], packT t true [c2]]) ⟨hk1, by simp; omega, by simp; omega⟩ (by simp) (Weak.of [(0, some 0, o.length + 2, 4)] [(1, 1)] ?_)
        simp [Talk.cells, Hello.cells, packT_v, chunk_v, hze]
      · obtain rfl : k = 0 := by omega
        have e0 : pr = (m, o) := hk1.symm
        subst e0
        simp
        simp at hk2 hk3
        exact ⟨by omega, Again.mk (i + 1, m, b, o) ⟨by simp; omega, hS, by simp; omega, by simp; omega, by simp; omega⟩ (by simp; omega) (Weak.of [(0, some 0, o.length, 4)] [(1, 1)] (by simp [Talk.cells, Hello.cells, hze]))⟩
    · simp [hbb] at hS h1 h2 h3
      obtain ⟨pr, hpr⟩ : ∃ pr, sendF t true (manyN x.text.length z) b out = pr := ⟨_, rfl⟩
      rw [hpr] at hS
      have hmn := many_le (n := x.text.length) hz1.1
      simp
      refine go_loop (fun y : Nat × List Part × List Packet => { env := [(1, .ptr 1 0), (3, .sl (some 0) 4 (y.2.2.map Packet.v)), (4, .sl none 7 (a.map Part.v)), (5, .sl none 7 (y.2.1.map Part.v)), (6, .int .i64 (i : Nat)), (7, .bool true), (8, .int .i64 (y.1 : Nat))], loc := [], box := [(1, t.cells)], stat := [(0, some (.own y.2.2.length 4))] })
        (fun y => sendF t true y.1 y.2.1 y.2.2 = pr ∧ y.1 + manyL z true (t.says.drop (i + 1)) ≤ y.2.1.length ∧ y.2.2.length + 2 * y.1 + 2 * (manyL z false (t.says.drop (i + 1)) + manyL z true (t.says.drop (i + 1))) ≤ 52) (fun y => y.1) (manyN x.text.length z, b, out)
        ⟨hpr, by simp; omega, by simp; omega⟩ (Weak.of [(0, some 0, out.length, 4)] [(1, 1)] (by simp [Talk.cells, Hello.cells, hze])) ?_
      rintro ⟨k, m, o⟩ ⟨hk1, hk2, hk3⟩
      simp only at hk1 hk2 hk3
      simp [Talk.cells, Hello.cells]
      refine goTest_dec (fun hk => ?_) (fun hk => ?_)
      · obtain ⟨k, rfl⟩ : ∃ j, k = j + 1 := ⟨k - 1, by omega⟩
        have hm : 0 < m.length := by omega
        have htl : List.take m.length (m.map Part.v) = m.map Part.v := List.take_of_length_le (by simp)
        have w1 := spec_DataPut_ok (nth m 0)
        have w2 := spec_SackPut_ok ⟨(nth m 0).tsn, []⟩ (by simp)
        rw [opt_get] at w1 w2
        have f1 := l41Packet_ok t true [dataC (nth m 0)]
        have f2 := l41Packet_ok t false [sackC (nth m 0)]
        have e1 : (putPart (nth m 0)).getD zChunk = dataC (nth m 0) := rfl
        have e2 : (putSack ⟨(nth m 0).tsn, []⟩).getD zChunk = sackC (nth m 0) := rfl
        rw [e1] at w1
        rw [e2] at w2
        unfold sendF at hk1
        simp only [Bool.not_false, Bool.not_true] at hk1
        generalize dataC (nth m 0) = c1 at *
        generalize sackC (nth m 0) = c2 at *
        simp only [packT_v, talk_v, chunk_v, pt_v, sk_v, if_true, Bool.false_eq_true, if_false] at w1 w2 f1 f2
        simp [hm, htl, pt_v]
        refine ⟨by omega, ?_⟩
        refine goCall_eq w1 (by simp) ?_
        simp
        refine goCall_gen [] [] [] [] none w2 (by simp) ?_
        simp
        refine goDCall_gen [] [] [1248] [] none f1 (by simp [chunk_v]) (by simp) ?_
        simp
        refine goDCall_gen [] [] [1344] [] none f2 (by simp [chunk_v]) (by simp) ?_
        simp
        repeat' (first | (refine And.intro (by omega) ?_) | (refine And.intro (by unfold roomOk; omega) ?_) | fail)
        refine Again.mk (k, m.drop 1, o ++ [packT t true [c1], packT t false [c2]]) ⟨hk1, by simp; omega, by simp; omega⟩ (by simp) (Weak.of [(0, some 0, o.length + 2, 4)] [(1, 1)] ?_)
        simp [Talk.cells, Hello.cells, packT_v, chunk_v, hze]
      · obtain rfl : k = 0 := by omega
        have e0 : pr = (m, o) := hk1.symm
        subst e0
        simp
        simp at hk2 hk3
        exact ⟨by omega, Again.mk (i + 1, a, m, o) ⟨by simp; omega, hS, by simp; omega, by simp; omega, by simp; omega⟩ (by simp; omega) (Weak.of [(0, some 0, o.length, 4)] [(1, 1)] (by simp [Talk.cells, Hello.cells, hze]))⟩
  · obtain rfl : i = t.says.length := by omega
    simp [saysF, manyL] at hS h3
    subst hS
    subst hP
    have o1 := l41One_ok t false 7
    have o2 := l41One_ok t true 8
    have o3 := l41One_ok t false 14
    rw [oneT_v] at o1 o2 o3
    simp only [talk_v] at o1 o2 o3
    simp
    refine goDCall_eq o1 (by simp) (by simp) ?_
    simp
    refine goDCall_eq o2 (by simp) (by simp) ?_
    simp
    refine goDCall_eq o3 (by simp) (by simp) ?_
    simp
    repeat' (first | (refine And.intro (by omega) ?_) | (refine And.intro (by unfold roomOk; omega) ?_) | fail)
    exact Ends.mk [] [] (by simp [oneT_v])
end

section
set_option maxRecDepth 200000
set_option maxHeartbeats 8000000
attribute [-simp] List.getD_eq_getElem?_getD

/-- The records are handed back with their memory. -/
theorem spec_TalkRecords_own (t : Talk) (n : Int) (hb : t.bd) (hn : -1000000000000 ≤ n ∧ n ≤ 1000000000000) : Fn Tryz.prog fn_spec_TalkRecords [t.v, .int .i64 n] [] (.sl (some 0) 2 ((recordsT t n).map Tap.v)) [] := by
  refine Fn.of_go ln_spec_TalkRecords rfl ?_
  have p1 := spec_TalkPackets_ok t hb
  obtain ⟨hsh, hlen⟩ := packets_short t
  have hR : recordsT t n = if 0 ≤ n ∧ capOk (recsF n (packetsT t)) = true then recsF n (packetsT t) else [] := rfl
  generalize recordsT t n = R at *
  generalize packetsT t = P at *
  simp only [talk_v] at p1
  simp [ac_spec_TalkRecords, talk_v]
  refine goCall_eq p1 (by simp) ?_
  simp
  refine go_loop (fun i : Nat => { env := [(1, .int .i64 n), (5, .sl (some 0) 2 ((recsF n (P.take i)).map Tap.v)), (6, .sl none 4 (P.map Packet.v)), (7, .int .i64 (i : Nat))], loc := [], box := [], stat := [(0, some (.own i 2))] }) (fun i => i ≤ P.length) (fun i => P.length - i) 0 (by omega) (Weak.of [(0, some 128, 0, 2)] [] (by simp [recsF])) ?_
  intro i hi
  simp
  refine goTest_dec (fun hlt => ?_) (fun hge => ?_)
  · have hs := take_nth hlt
    have hmin : min i P.length = i := by omega
    have hrs : recsF n (P.take (i + 1)) = recsF n (P.take i) ++ [⟨n + i, textP (nth P i)⟩] := by rw [hs, recsF_snoc]; simp [hmin]
    have q1 := spec_PacketPut_ok (nth P i) (by have := hsh _ (nth_mem hlt); unfold Short at this; omega)
    have hrl : (recsF n (P.take i)).length = i := by rw [recsF_len]; simp [hmin]
    simp only [packet_v] at q1
    simp [hlt, packet_v]
    refine ⟨by omega, ?_⟩
    refine goCall_eq q1 (by simp) ?_
    simp [hrl]
    repeat' (first | (refine And.intro (by omega) ?_) | (refine And.intro (by unfold roomOk; omega) ?_) | fail)
    exact Again.mk (i + 1) hlt (by omega) (Weak.of [(0, some 0, i + 1, 2)] [] (by simp [hrs, rec_v]))
  · obtain rfl : i = P.length := by omega
    have hrl : (recsF n P).length = P.length := recsF_len P n
    have v1 := spec_CaptureValid_ok (recsF n P) (by omega)
    simp only [rsl] at v1
    simp
    refine goTest_dec (fun q => ?_) (fun q => ?_)
    · rw [if_neg (by omega)] at hR
      subst hR
      simp [q]
      exact Ends.mk [(0, some 576, 0, 2)] [] (by simp)
    · simp [q]
      refine goCall_gen [] [] [] [0] none v1 (by simp) ?_
      cases hc : capOk (recsF n P)
      · rw [if_neg (by simp [hc])] at hR
        subst hR
        simp
        exact Ends.mk [(0, some 576, 0, 2)] [] (by simp)
      · rw [if_pos ⟨by omega, hc⟩] at hR
        subst hR
        simp
        exact Ends.mk [(0, some 0, P.length, 2)] [] (by simp [hrl])

theorem spec_TalkRecords_ok (t : Talk) (n : Int) (hb : t.bd) (hn : -1000000000000 ≤ n ∧ n ≤ 1000000000000) : Fn Tryz.prog fn_spec_TalkRecords [t.v, .int .i64 n] [] (rsl (recordsT t n)) [] :=
  (spec_TalkRecords_own t n hb hn).weak [] [] (by simp) (by simp) (by simp [rsl]) (by simp [rsl]) (by simp) (by simp) (by simp)
end

section
set_option maxRecDepth 200000
set_option maxHeartbeats 8000000
attribute [-simp] List.getD_eq_getElem?_getD

/-- A talk that was drawn. -/
inductive TkR (src : List UInt8) (a k : Int) : V → List (List V) → Prop
  | mk (t : Talk) (b : Int) (h : t.says.length ≤ 5) (ht : ∀ x ∈ t.says, x.text.length ≤ 20) (hb : a ≤ b ∧ b ≤ a + k) : TkR src a k t.v [[bsl src, .int .i64 b]]

theorem l92Talk_ok (src : List UInt8) (a : Int) (h : 0 ≤ a ∧ a < 6000000) : ∃ R bo, TkR src a 100 R bo ∧ Fn Tryz.prog fn_spec_l92Talk [.ptr 1000 0] [[bsl src, .int .i64 a]] R bo := by
  refine Fx.of_go ln_spec_l92Talk rfl ?_
  simp [ac_spec_l92Talk, bsl]
  refine goPick rfl (by omega) (by omega) fun r1 h1 => ?_
  simp
  refine ⟨by omega, goPick rfl (by omega) (by omega) fun r2 h2 => ?_⟩
  simp
  refine ⟨by omega, goPick rfl (by omega) (by omega) fun r3 h3 => ?_⟩
  simp
  refine ⟨by omega, goPick rfl (by omega) (by omega) fun r4 h4 => ?_⟩
  simp
  refine ⟨by omega, goGood rfl (by omega) fun n5 b5 hn5 hb5 => ?_⟩
  simp
  refine goPick rfl (by omega) (by omega) fun r6 h6 => ?_
  simp
  refine ⟨by omega, goPick rfl (by omega) (by omega) fun r7 h7 => ?_⟩
  simp
  refine ⟨by omega, goGood rfl (by omega) fun n8 b8 hn8 hb8 => ?_⟩
  simp
  refine goPick rfl (by omega) (by omega) fun r9 h9 => ?_
  simp
  refine ⟨by omega, goPick rfl (by omega) (by omega) fun n hn => ?_⟩
  simp
  have hvalid := fun l => spec_TalkValid_ok (⟨1 + (r1 : Int), 6 + (r2 : Int), ⟨1 + (r3 : Int), 1000, 1 + (r4 : Int), n5⟩, ⟨100 + (r6 : Int), 1000, 1 + (r7 : Int), n8⟩, 2 + (r9 : Int), l⟩ : Talk)
  simp only [talk_v] at hvalid
  refine go_loop (fun x : Nat × List Say × Int => { env := [(0, .ptr 1000 0), (2, .ptr 2 0), (3, .ptr 3 0), (4, .int .i64 (n : Nat)), (5, .int .i64 (x.1 : Nat))], loc := [], box := [(1000, [bsl src, .int .i64 x.2.2]), (2, List.replicate 12 .undef), (3, [.int .i64 (1 + (r1 : Int)), .int .i64 (6 + (r2 : Int)), .int .i64 (1 + (r3 : Int)), .int .i64 1000, .int .i64 (1 + (r4 : Int)), .int .i64 n5, .int .i64 (100 + (r6 : Int)), .int .i64 1000, .int .i64 (1 + (r7 : Int)), .int .i64 n8, .int .i64 (2 + (r9 : Int)), .sl (some 0) 4 (x.2.1.map Say.v)])], stat := [(0, some (.own x.2.1.length 4))] })
    (fun x => x.1 ≤ n ∧ x.2.1.length ≤ x.1 ∧ (∀ y ∈ x.2.1, y.text.length ≤ 20) ∧ b8 + 2 ≤ x.2.2 ∧ x.2.2 ≤ b8 + 2 + 4 * x.1) (fun x => n - x.1) (0, [], b8 + 1 + 1) ⟨by simp, by simp, by simp, by simp; omega, by simp; omega⟩ (Weak.of [(0, some 560, 0, 4)] [(1000, 1000), (2, 2), (3, 3)] (by simp [bsl, List.replicate])) ?_
  rintro ⟨i, l, e⟩ ⟨hi, hl, hlt, he1, he2⟩
  simp at hi hl hlt he1 he2
  simp [bsl]
  refine goTest_dec (fun hin => ?_) (fun hin => ?_)
  · simp [hin]
    obtain ⟨s, hs, fo⟩ := of_ok src e [[104, 101, 108, 108, 111], [120], [116, 111, 32, 116, 104, 101, 32, 111, 116, 104, 101, 114, 32, 115, 105, 100, 101], [97, 98], [102, 111, 117, 114], [48, 49, 50, 51, 52, 53, 54, 55, 56, 57]] (by omega) (by simp) (by simp)
    have hsl : s.length ≤ 20 := by
      have : ∀ y ∈ ([[104, 101, 108, 108, 111], [120], [116, 111, 32, 116, 104, 101, 32, 111, 116, 104, 101, 114, 32, 115, 105, 100, 101], [97, 98], [102, 111, 117, 114], [48, 49, 50, 51, 52, 53, 54, 55, 56, 57]] : List (List UInt8)), y.length ≤ 20 := by decide
      exact this s hs
    clear hs
    simp only [ssl, bsl] at fo
    refine goCall_gen [] [(1000, 1000)] [720] [] none fo (by simp [bsl]) ?_
    simp
    refine goPick rfl (by omega) (by omega) fun q1 hq1 => ?_
    simp
    refine goPick rfl (by omega) (by omega) fun q2 hq2 => ?_
    simp
    cases hb : decide (q1 = 0)
    all_goals
      simp
      refine goPick rfl (by omega) (by omega) fun q3 hq3 => ?_
      have v1 := hvalid (l ++ [⟨decide (q1 = 0), q3, decide (q2 = 0), s⟩]) ⟨by simp; omega, fun y hy => by
        rcases List.mem_append.1 hy with h | h
        · have := hlt y h; omega
        · rw [List.mem_singleton.1 h]; simp only; omega⟩
      rw [hb] at v1
      generalize Talk.ok _ = ok at v1
      simp
      refine ⟨by unfold roomOk; omega, ?_⟩
      refine goCall_gen [] [] [] [0] none v1 (by simp [say_v]) ?_
      cases ok
      · simp
        exact ⟨by omega, by omega, by omega, Again.mk (i + 1, l, e + 1 + 1 + 1 + 1) ⟨by simp; omega, by simp; omega, hlt, by simp; omega, by simp; omega⟩ (by simp; omega) (Weak.of [(0, some 0, l.length, 4)] [(1000, 1000), (2, 2), (3, 3)] (by simp [bsl]))⟩
      · simp
        exact ⟨by omega, Again.mk (i + 1, l ++ [⟨decide (q1 = 0), q3, decide (q2 = 0), s⟩], e + 1 + 1 + 1 + 1) ⟨by simp; omega, by simp; omega, snoc_mem hlt hsl, by simp; omega, by simp; omega⟩ (by simp; omega) (Weak.of [(0, some 0, l.length + 1, 4)] [(1000, 1000), (2, 2), (3, 3)] (by simp [bsl, say_v, hb]))⟩
  · simp [hin]
    exact ⟨_, _, .mk ⟨1 + (r1 : Int), 6 + (r2 : Int), ⟨1 + (r3 : Int), 1000, 1 + (r4 : Int), n5⟩, ⟨100 + (r6 : Int), 1000, 1 + (r7 : Int), n8⟩, 2 + (r9 : Int), l⟩ e (by simp; omega) hlt (by omega), Ends.mk [] [(1000, 1000)] (by simp [bsl, talk_v])⟩
end

section
set_option maxRecDepth 200000
set_option maxHeartbeats 8000000
attribute [-simp] List.getD_eq_getElem?_getD

theorem l32Copy_ok (m : Monitor) (hm : m.bd) : Fn Tryz.prog fn_spec_l32Copy [m.v] [] (m.own 0 1) [] := by
  refine Fn.of_go ln_spec_l32Copy rfl ?_
  have hl := hm.len
  have hf := hm.found
  simp [ac_spec_l32Copy, mon_v]
  refine ⟨⟨fun z a b _ h => by subst h; rfl, by unfold roomOk; omega⟩, ?_⟩
  refine go_loop (fun i => { env := [(1, .ptr 1 0), (2, .ptr 2 0), (3, .ptr 3 0), (4, .int .i64 (i : Nat))], loc := [], box := [(1, m.cells), (2, List.replicate 3 .undef), (3, [.int .i64 m.records, .sl (some 0) 14 ((m.list.take i).map Assoc.v), .sl (some 1) 2 (m.found.map fV)])], stat := [(0, some (.own i 14)), (1, some (.own m.found.length 2))] }) (fun i => i ≤ m.list.length) (fun i => m.list.length - i) 0 (by omega) (Weak.of [(0, some 112, 0, 14), (1, some 128, m.found.length, 2)] [(1, 1), (2, 2), (3, 3)] (by simp [Monitor.cells, fsl, List.replicate])) ?_
  intro i hi
  have hlen : (m.list.take i).length = i := by simp; omega
  simp [Monitor.cells, fsl]
  refine goTest_dec (fun hlt => ?_) (fun hge => ?_)
  · have hxb := hm.each _ (nth_mem hlt)
    have f1 := l31Copy_ok (nth m.list i) (by have := hxb.1.2; omega) (by have := hxb.2.2; omega)
    simp only [assoc_v, own_c] at f1
    have hs := take_nth hlt
    simp [hlt, assoc_v]
    refine goDCall_eq f1 (by simp) (by simp) ?_
    simp
    refine ⟨by unfold roomOk; omega, by omega, Again.mk (i + 1) hlt (by omega) (Weak.of [(0, some 0, i + 1, 14), (1, some 1, m.found.length, 2)] [(1, 1), (2, 2), (3, 3)] ?_)⟩
    have hs2 : List.take (i + 1) (m.list.map Assoc.v) = List.take i (m.list.map Assoc.v) ++ [(nth m.list i).v] := by rw [← List.map_take, hs]; simp [List.map_take]
    rw [assoc_v] at hs2
    simp [Monitor.cells, fsl, hs2]
  · obtain rfl : i = m.list.length := by omega
    simp
    have e : List.take m.list.length (List.map Assoc.v m.list) = List.map Assoc.v m.list := List.take_of_length_le (by simp)
    exact Ends.mk [(0, some 0, m.list.length, 14), (1, some 1, m.found.length, 2)] [] (by simp [Monitor.own, e])

theorem bad_list {m : Monitor} {i : Nat} (hi : i < m.list.length) (h : listAt m.list i = false) : m.ok = false := by
  have := allTo_false hi h
  simp [Monitor.ok, this]
theorem bad_found {m : Monitor} {i : Nat} (hi : i < m.found.length) (h : fsP m.records m.found i = false) : m.ok = false := by
  have : fsOk m.records m.found = false := allTo_false hi h
  simp [Monitor.ok, this]

theorem spec_MonitorValid_ok (m : Monitor) (hm : m.bd) : Fn Tryz.prog fn_spec_MonitorValid [m.v] [] (.bool m.ok) [] := by
  refine Fn.of_go ln_spec_MonitorValid rfl ?_
  have hl := hm.len
  have hf := hm.found
  have hr := hm.recs
  simp [ac_spec_MonitorValid, mon_v]
  refine go_loop (fun i => { env := [(1, .ptr 1 0), (3, .int .i64 (i : Nat))], loc := [], box := [(1, m.cells)], stat := [] }) (fun i => i ≤ m.list.length ∧ allTo (listAt m.list) i = true) (fun i => m.list.length - i) 0 ⟨by omega, rfl⟩ (Weak.of [] [(1, 1)] (by simp [Monitor.cells, fsl])) ?_
  rintro i ⟨hi, hp⟩
  simp [Monitor.cells, fsl]
  refine goTest_dec (fun hlt => ?_) (fun hge => ?_)
  · have hbad := bad_list hlt
    have f1 := spec_AssocValid_ok (nth m.list i) (hm.each _ (nth_mem hlt))
    simp only [assoc_v] at f1
    have hla : listAt m.list i = ((nth m.list i).ok && decide ((nth m.list i).state ≠ 0) && allTo (fun k => !meet (nth m.list k).ports (nth m.list i).ports) i) := rfl
    simp [hlt, assoc_v]
    refine goCall_eq f1 (by simp) ?_
    cases q1 : (nth m.list i).ok
    · simp; exact Ends.mk [] [] (by simp [hbad (by simp [hla, q1])])
    simp [hlt, assoc_v]
    refine goTest_dec (fun q2 => ?_) (fun q2 => ?_)
    · simp [q2]; exact Ends.mk [] [] (by simp [hbad (by simp [hla, q2])])
    simp
    refine go_loop (fun k => { env := [(1, .ptr 1 0), (3, .int .i64 (i : Nat)), (4, .int .i64 (k : Nat))], loc := [], box := [(1, m.cells)], stat := [] }) (fun k => k ≤ i ∧ allTo (fun k => !meet (nth m.list k).ports (nth m.list i).ports) k = true) (fun k => i - k) 0 ⟨by omega, rfl⟩ (Weak.of [] [(1, 1)] (by simp [Monitor.cells, fsl])) ?_
    rintro k ⟨hk, hpk⟩
    simp [Monitor.cells, fsl]
    refine goTest_dec (fun hkl => ?_) (fun hkg => ?_)
    · have hkk : k < m.list.length := by omega
      have f2 := l32Pair_ok (nth m.list k) (nth m.list i)
      simp only [assoc_v] at f2
      simp [hlt, hkl, hkk, assoc_v]
      refine goCall_eq f2 (by simp) ?_
      simp
      refine goTest_bool (fun q3 => ?_) (fun q3 => ?_)
      · simp; exact Ends.mk [] [] (by simp [hbad (by rw [hla, allTo_false hkl (by simp [q3])]; simp)])
      · simp
        exact ⟨by omega, Again.mk (k + 1) ⟨hkl, allTo_succ hpk (by simp [q3])⟩ (by omega) (Weak.of [] [(1, 1)] (by simp [Monitor.cells, fsl]))⟩
    · obtain rfl : k = i := by omega
      simp
      exact ⟨by omega, Again.mk (k + 1) ⟨hlt, allTo_succ hp (by rw [hla, q1, hpk]; simp [q2])⟩ (by omega) (Weak.of [] [(1, 1)] (by simp [Monitor.cells, fsl]))⟩
  · obtain rfl : i = m.list.length := by omega
    simp
    refine go_loop (fun i => { env := [(1, .ptr 1 0), (5, .int .i64 (i : Nat))], loc := [], box := [(1, m.cells)], stat := [] }) (fun i => i ≤ m.found.length ∧ allTo (fsP m.records m.found) i = true) (fun i => m.found.length - i) 0 ⟨by omega, rfl⟩ (Weak.of [] [(1, 1)] (by simp [Monitor.cells, fsl])) ?_
    rintro i ⟨hi, hpf⟩
    simp [Monitor.cells, fsl]
    refine goTest_dec (fun hlt => ?_) (fun hge => ?_)
    · have hbad := bad_found hlt
      have hlt2 : i - 1 < m.found.length := by omega
      have hfp : fsP m.records m.found i = (fOk m.records (nth m.found i) && (i == 0 || fLess (nth m.found (i - 1)) (nth m.found i))) := rfl
      simp [hlt, fV]
      refine goDCall_eq (l32Finding_ok _ _ (by omega) (by omega)) (by simp [fV]) (by simp) ?_
      simp
      refine goTest_bool (fun h1 => ?_) (fun h1 => ?_)
      · simp [h1]
        refine goTest_dec (fun h2 => ?_) (fun h2 => ?_)
        · simp [h2, hlt, hlt2, fV]
          refine ⟨by omega, by omega, ?_⟩
          refine goCall_eq (l32Less_ok _ _) (by simp [fV]) ?_
          simp
          refine goTest_bool (fun h3 => ?_) (fun h3 => ?_)
          · simp [h3]
            exact ⟨by omega, .mk (i + 1) ⟨by omega, allTo_succ hpf (by simp [fsP, h1, h3])⟩ (by omega) (Weak.of [] [(1, 1)] (by simp [Monitor.cells, fsl]))⟩
          · simp [h3]
            exact Ends.mk [] [] (by simp [hbad (by simp [fsP, h1, h3, show i ≠ 0 by omega])])
        · simp [h2]
          exact ⟨by omega, .mk (i + 1) ⟨by omega, allTo_succ hpf (by obtain rfl : i = 0 := (by omega); simp [fsP, h1])⟩ (by omega) (Weak.of [] [(1, 1)] (by simp [Monitor.cells, fsl]))⟩
      · simp [h1]
        exact Ends.mk [] [] (by simp [hbad (by simp [fsP, h1])])
    · obtain rfl : i = m.found.length := by omega
      have hmo : m.ok = (inB m.records 0 60 && decide (m.list.length ≤ 3)) := by
        have : fsOk m.records m.found = true := hpf
        simp [Monitor.ok, hp, this]
      rw [hmo]
      simp
      refine goCall_eq (l6In_ok _ _ _) (by simp) ?_
      cases q : inB m.records 0 60
      · simp
        exact Ends.mk [] [] (by simp)
      · simp
        exact Ends.mk [] [] (by simp)
end

end Go.Proofs.YtnhhcfbigjpfeaaGreatDoor
