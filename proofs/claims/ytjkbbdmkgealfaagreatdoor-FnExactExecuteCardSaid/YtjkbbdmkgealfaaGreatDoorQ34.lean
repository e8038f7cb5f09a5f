/-
  A script, by the program: contract.
  Lines and scripts, by the reference: contracts.
  Scripts that were drawn; the last line and the complete lines of a text.
  The scripts of the laws, evaluated by the kernel.
  Texts of findings, as lists: what is written can be read, and what is read is what is written.
-/
import Derived.Test.YtjkbbdmkgealfaaGreatDoorQ33
import Derived.Test.YtjkbbdmkgealfaaGreatDoorQ22
import Derived.Test.YtjkbbdmkgealfaaGreatDoorQ31
namespace Go.Proofs.YtjkbbdmkgealfaaGreatDoor
set_option linter.all false
section
set_option maxRecDepth 200000
set_option maxHeartbeats 8000000
attribute [-simp] List.getD_eq_getElem?_getD
theorem runD_snoc : ∀ (l : List (List UInt8)) (s : Desk) (x : List UInt8), runD s (l ++ [x]) = ((lineD (runD s l).1 x).1, (runD s l).2 ++ (lineD (runD s l).1 x).2)
  | [], s, x => by simp [runD]
  | y :: r, s, x => by
    simp only [List.cons_append, runD, runD_snoc r (lineD s y).1 x, List.append_assoc]
theorem countT_len (n : Nat) (h : n ≤ 1000) : (countT n).length ≤ 100 := by
  have := decS_len20 (n := n) (by omega)
  simp [countT, tRecords]; omega
theorem lineD_len {s : Desk} (h : s.bd) (line : List UInt8) : (lineD s line).2.length ≤ 1000000000 := by
  have h1 : tWhat.length ≤ 1000000000 := by decide
  have h2 : tOk.length ≤ 1000000000 := by decide
  have h3 : tNo.length ≤ 1000000000 := by decide
  unfold lineD
  split
  · split
    · unfold sayD; split
      · exact h2
      · exact h3
    · exact h1
  · split
    · unfold changeD; split
      · exact h2
      · exact h3
    · exact h1
  · split
    · have := countT_len _ (by have := (records_small s.talk 0).1; omega : (recordsT s.talk 0).length ≤ 1000)
      unfold talkD
      show (countT _).length ≤ _
      omega
    · split
      · have := h.recs
        exact reportT_len ((run_sm s.recs).bd (by omega))
      · exact h1
  · exact h1
theorem runD_facts : ∀ (l : List (List UInt8)) {s : Desk}, s.bd → (∀ x ∈ l, x.length ≤ 600) → (runD s l).1.bd ∧ (runD s l).2.length ≤ 1000000000 * l.length
  | [], s, h, _ => ⟨h, by simp [runD]⟩
  | x :: r, s, h, hl => by
    have h1 := lineD_bd h (hl x (List.mem_cons_self ..))
    have h2 := lineD_len h x
    obtain ⟨h3, h4⟩ := runD_facts r h1 fun y hy => hl y (List.mem_cons_of_mem _ hy)
    refine ⟨h3, ?_⟩
    simp only [runD, List.length_append, List.length_cons]
    omega
theorem linesD_len {text : List UInt8} (h : text.length ≤ 600) : (linesD text).length ≤ 600 ∧ ∀ x ∈ linesD text, x.length ≤ 600 := by
  have h1 := cutAll_len 10 text
  refine ⟨by simp [linesD]; omega, fun x hx => ?_⟩
  have := cutAll_part 10 text x (List.dropLast_subset _ hx)
  omega
theorem impl_Execute_ok (text : List UInt8) : Fn Tryz.prog fn_impl_Execute [.str text] [] (.str (executeD text)) [] := by
  refine Fn.of_go ln_impl_Execute rfl ?_
  simp [ac_impl_Execute]
  refine goTest_dec (fun h0 => ?_) (fun h0 => ?_)
  · simp
    exact Ends.mk [] [] (by simp [executeD, h0, tLong])
  have hE : executeD text = (runD desk0 (linesD text)).2 ++ countT (runD desk0 (linesD text)).1.recs.length := by simp [executeD, h0]
  have ht : text.length ≤ 600 := by omega
  obtain ⟨hL1, hL2⟩ := linesD_len ht
  have hne : 0 < (cutAll 10 text).length := List.length_pos_iff.2 (cutAll_ne 10 text)
  have hLd : (linesD text).map V.str = ((cutAll 10 text).map V.str).take ((cutAll 10 text).length - 1) := by
    unfold linesD
    rw [List.dropLast_eq_take, List.map_take]
  have hcl := cutAll_len 10 text
  have hll : (linesD text).length = (cutAll 10 text).length - 1 := by simp [linesD]
  rw [hE]
  simp
  refine goCall_eq (Split_ok text 10 (by omega)) (by simp) ?_
  simp
  refine ⟨by omega, by omega, ?_⟩
  rw [← hLd, ← hll]
  obtain ⟨L, hL⟩ : ∃ L, L = linesD text := ⟨_, rfl⟩
  rw [← hL] at hL1 hL2 ⊢
  clear hLd hll hL hE h0 hne
  refine go_loop (fun i : Nat => { env := [(3, .ptr 3 0), (4, .str (runD desk0 (L.take i)).2), (21, .sl none 1 (L.map V.str)), (22, .int .i64 (L.length : Nat)), (23, .int .i64 (i : Nat))], loc := [], box := [(3, deskC (runD desk0 (L.take i)).1.talk (runD desk0 (L.take i)).1.recs)], stat := [(0, some (.own (runD desk0 (L.take i)).1.recs.length 2))] })
    (fun i => i ≤ L.length) (fun i => L.length - i) 0 (by omega) (Weak.of [(0, none, 0, 2)] [(3, 3)] (by simp [runD, desk0, deskC, Talk.cells, Hello.cells])) ?_
  intro i hi
  obtain ⟨hb, ho⟩ := runD_facts (L.take i) desk0_bd (fun x hx => hL2 x (List.mem_of_mem_take hx))
  have hmin : min i L.length = i := by omega
  rw [List.length_take, hmin] at ho
  simp [deskC, Talk.cells, Hello.cells]
  refine goTest_dec (fun hlt => ?_) (fun hge => ?_)
  · have hs : L.take (i + 1) = L.take i ++ [nth L i] := take_nth hlt
    have hx := hL2 _ (nth_mem hlt)
    have hr := runD_snoc (L.take i) desk0 (nth L i)
    rw [← hs] at hr
    have f1 := impl_line_ok _ hb (nth L i) hx
    have f2 := lineD_len hb (nth L i)
    generalize runD desk0 (L.take i) = S at *
    generalize lineD S.1 (nth L i) = N at *
    simp [deskC, Talk.cells, Hello.cells] at f1
    simp [hlt]
    refine goCall_eq (Split_ok (nth L i) 32 (by omega)) (by simp) ?_
    simp
    refine goCall_gen [(0, some 0, S.1.recs.length, 2)] [(1000, 3)] [] [] none f1 (by simp) ?_
    simp
    refine ⟨by omega, by omega, Again.mk (i + 1) hlt (by omega) (Weak.of [(0, some 480, N.1.recs.length, 2)] [(3, 3)] (by simp [hr, deskC, Talk.cells, Hello.cells]))⟩
  · obtain rfl : i = L.length := by omega
    rw [List.take_length] at *
    generalize runD desk0 L = S at *
    have f2 := Itoa_ok S.1.recs.length (by omega) (by have := hb.recs; omega)
    rw [itoa_dec] at f2
    have hd := decS_len20 (n := S.1.recs.length) (by have := hb.recs; omega)
    simp
    refine ⟨by omega, ?_⟩
    refine goCall_eq f2 (by simp) ?_
    simp
    refine ⟨by omega, by omega, ?_⟩
    exact Ends.mk [] [] (by simp [countT, tRecords])
end
section
set_option maxRecDepth 200000
set_option maxHeartbeats 8000000
attribute [-simp] List.getD_eq_getElem?_getD
theorem notin_join {l : List UInt8} {a : List UInt8} (h : cutAll 32 l = [a]) : l = a := by
  have := cutAll_notin (c := 32) (s := l) (by
    have q := cutAll_count 32 l
    rw [h] at q
    simp at q
    exact List.count_eq_zero.1 (by omega))
  rw [h] at this
  simpa using this.symm
theorem l51Line_ok (s : Desk) (h : s.bd) (line : List UInt8) (hl : line.length ≤ 600) : Fn Tryz.prog fn_spec_l51Line [deskV s.talk s.recs, .str line] [] (.tup [deskV (lineD s line).1.talk (lineD s line).1.recs, .str (lineD s line).2]) [] := by
  have f0 := l42Cut_ok line 32 (by omega)
  have hp := cutAll_part 32 line
  have hD := lineD_words s line
  have htk : line = [116, 97, 108, 107] → cutAll 32 line = [tTalk] := fun e => by rw [e]; rfl
  have hrp : line = [114, 101, 112, 111, 114, 116] → cutAll 32 line = [tReport] := fun e => by rw [e]; rfl
  have hjo := fun a => notin_join (l := line) (a := a)
  obtain ⟨out, hout⟩ : ∃ out, out = (lineD s line).2 := ⟨_, rfl⟩
  obtain ⟨bo, hbo⟩ : ∃ bo, bo = deskV (lineD s line).1.talk (lineD s line).1.recs := ⟨_, rfl⟩
  rw [← hout, ← hbo]
  rw [hD] at hout hbo
  clear hD
  generalize cutAll 32 line = ws at *
  refine Fn.of_go ln_spec_l51Line rfl ?_
  match ws with
  | [] =>
    have n1 : ¬ line = [116, 97, 108, 107] := fun e => by simpa using htk e
    have n2 : ¬ line = [114, 101, 112, 111, 114, 116] := fun e => by simpa using hrp e
    simp [ac_spec_l51Line, deskV, Talk.cells, Hello.cells]
    refine goCall_eq f0 (by simp) ?_
    simp [n1, n2]
    subst hout
    subst hbo
    exact Ends.mk [] [] (by simp [wordsD, deskV, Talk.cells, Hello.cells, tWhat])
  | [a] =>
    obtain rfl := hjo a rfl
    by_cases q1 : line = tTalk
    · have f1 := spec_TalkRecords_own s.talk 0 h.talk_bd (by omega)
      obtain ⟨hrl, _⟩ := records_small s.talk 0
      have e : wordsD s [line] = (⟨s.talk, recordsT s.talk 0⟩, countT (recordsT s.talk 0).length) := by simp [wordsD, q1, talkD]
      rw [e] at hout hbo
      generalize recordsT s.talk 0 = R at *
      have f2 := decPos_ok R.length (by omega) (by omega)
      have hd := decS_len20 (n := R.length) (by omega)
      simp only [talk_v] at f1
      have q1' : line = [116, 97, 108, 107] := q1
      subst hout
      subst hbo
      simp [ac_spec_l51Line, deskV, Talk.cells, Hello.cells]
      refine goCall_eq f0 (by simp) ?_
      simp [q1']
      refine goCall_gen [] [] [] [] none f1 (by simp) ?_
      simp
      refine goDCall_eq f2 (by simp) (by simp) ?_
      simp
      refine ⟨by omega, by omega, ?_⟩
      exact Ends.mk [] [] (by simp [countT, tRecords])
    · have n1 : ¬ line = [116, 97, 108, 107] := q1
      by_cases q2 : line = tReport
      · have f1 := spec_MonitorRun_ok s.recs (by have := h.recs; omega) (fun r hr => by have := h.each r hr; omega)
        have f2 := spec_ReportText_ok (runS s.recs) ((run_sm s.recs).bd (by have := h.recs; omega))
        have e : wordsD s [line] = (s, reportT (runS s.recs)) := by
          show (if line = tTalk then _ else if line = tReport then _ else _) = _
          rw [if_neg q1, if_pos q2]
        rw [e] at hout hbo
        generalize runS s.recs = m at *
        simp only [mon_v, rsl] at f1 f2
        have q2' : line = [114, 101, 112, 111, 114, 116] := q2
        subst hout
        subst hbo
        simp [ac_spec_l51Line, deskV, Talk.cells, Hello.cells]
        refine goCall_eq f0 (by simp) ?_
        simp [q2']
        refine goDCall_eq f1 (by simp) (by simp) ?_
        simp
        refine goDCall_eq f2 (by simp) (by simp) ?_
        simp
        exact Ends.mk [] [] (by simp)
      · have n2 : ¬ line = [114, 101, 112, 111, 114, 116] := q2
        have e : wordsD s [line] = (s, tWhat) := by simp [wordsD, q1, q2]
        rw [e] at hout hbo
        subst hout
        subst hbo
        simp [ac_spec_l51Line, deskV, Talk.cells, Hello.cells]
        refine goCall_eq f0 (by simp) ?_
        simp [n1, n2]
        exact Ends.mk [] [] (by simp [tWhat])
  | [a, b] =>
    have n1 : ¬ line = [116, 97, 108, 107] := fun e => by simpa using htk e
    have n2 : ¬ line = [114, 101, 112, 111, 114, 116] := fun e => by simpa using hrp e
    cases q : chgW a with
    | true =>
      have f1 := l42Number_ok b
      have f2 := l51Change_ok s h a (numS b) (by have := (numS_small b).2; omega) q
      have e : wordsD s [a, b] = changeD s a (numS b) := by simp [wordsD, q]
      rw [e] at hout hbo
      generalize changeD s a (numS b) = X at *
      subst hout
      subst hbo
      simp [deskV, Talk.cells, Hello.cells] at f2
      simp [ac_spec_l51Line, deskV, Talk.cells, Hello.cells]
      refine goCall_eq f0 (by simp) ?_
      rcases chgW_four q with rfl | rfl | rfl | rfl
      all_goals
        simp [n1, n2]
        refine goDCall_eq f1 (by simp) (by simp) ?_
        simp
        refine goDCall_eq f2 (by simp) (by simp) ?_
        simp
        exact Ends.mk [] [] (by simp)
    | false =>
      have e : wordsD s [a, b] = (s, tWhat) := by simp [wordsD, q]
      rw [e] at hout hbo
      subst hout
      subst hbo
      simp only [chgW, Bool.or_eq_false_iff, decide_eq_false_iff_not] at q
      simp only [tDrop, tTwice, tCut, tFlip] at q
      obtain ⟨⟨⟨q1, q2⟩, q3⟩, q4⟩ := q
      simp [ac_spec_l51Line, deskV, Talk.cells, Hello.cells]
      refine goCall_eq f0 (by simp) ?_
      simp [n1, n2, q1, q2, q3, q4]
      exact Ends.mk [] [] (by simp [tWhat])
  | [a, b, c] =>
    have n1 : ¬ line = [116, 97, 108, 107] := fun e => by simpa using htk e
    have n2 : ¬ line = [114, 101, 112, 111, 114, 116] := fun e => by simpa using hrp e
    cases q : sayW a with
    | true =>
      have f2 := l51Say_ok s h a b c (by have := hp c (by simp); omega) q
      have e : wordsD s [a, b, c] = sayD s a b c := by simp [wordsD, q]
      rw [e] at hout hbo
      generalize sayD s a b c = X at *
      subst hout
      subst hbo
      simp [deskV, Talk.cells, Hello.cells] at f2
      simp [ac_spec_l51Line, deskV, Talk.cells, Hello.cells]
      refine goCall_eq f0 (by simp) ?_
      rcases sayW_four q with rfl | rfl | rfl | rfl
      all_goals
        simp [n1, n2]
        refine goCall_gen [] [] [128] [] none f2 (by simp) ?_
        simp
        exact Ends.mk [] [] (by simp)
    | false =>
      have e : wordsD s [a, b, c] = (s, tWhat) := by simp [wordsD, q]
      rw [e] at hout hbo
      subst hout
      subst hbo
      simp [sayW] at q
      obtain ⟨⟨⟨q1, q2⟩, q3⟩, q4⟩ := q
      simp [ac_spec_l51Line, deskV, Talk.cells, Hello.cells]
      refine goCall_eq f0 (by simp) ?_
      simp [n1, n2, q1, q2, q3, q4]
      exact Ends.mk [] [] (by simp [tWhat])
  | a :: b :: c :: d :: r =>
    have n1 : ¬ line = [116, 97, 108, 107] := fun e => by simpa using htk e
    have n2 : ¬ line = [114, 101, 112, 111, 114, 116] := fun e => by simpa using hrp e
    have q : ¬ (r.length : Int) + 1 + 1 + 1 + 1 = 3 := by omega
    have q1 : ¬ (r.length : Int) + 1 + 1 + 1 + 1 = 2 := by omega
    have e : wordsD s (a :: b :: c :: d :: r) = (s, tWhat) := rfl
    rw [e] at hout hbo
    subst hout
    subst hbo
    simp [ac_spec_l51Line, deskV, Talk.cells, Hello.cells]
    refine goCall_eq f0 (by simp) ?_
    simp [n1, n2, q, q1]
    exact Ends.mk [] [] (by simp [tWhat])
theorem spec_Execute_ok (text : List UInt8) : Fn Tryz.prog fn_spec_Execute [.str text] [] (.str (executeD text)) [] := by
  refine Fn.of_go ln_spec_Execute rfl ?_
  simp [ac_spec_Execute]
  refine goTest_dec (fun h0 => ?_) (fun h0 => ?_)
  · simp
    exact Ends.mk [] [] (by simp [executeD, h0, tLong])
  have hE : executeD text = (runD desk0 (linesD text)).2 ++ countT (runD desk0 (linesD text)).1.recs.length := by simp [executeD, h0]
  have ht : text.length ≤ 600 := by omega
  obtain ⟨hL1, hL2⟩ := linesD_len ht
  have hne : 0 < (cutAll 10 text).length := List.length_pos_iff.2 (cutAll_ne 10 text)
  have hll : (linesD text).length = (cutAll 10 text).length - 1 := by simp [linesD]
  have hel : ∀ i, i < (linesD text).length → nth (cutAll 10 text) i = nth (linesD text) i := fun i hi => by
    rw [nth_eq hi, nth_eq (by omega)]
    simp [linesD]
  have hcl := cutAll_len 10 text
  have f0 := l42Cut_ok text 10 (by omega)
  have f1 := l51Talk_ok
  simp [talk_v, desk0] at f1
  rw [hE]
  simp
  refine goCall_eq f1 (by simp) ?_
  simp
  refine goCall_eq f0 (by simp) ?_
  simp
  generalize hCs : cutAll 10 text = C at *
  obtain ⟨L, hL⟩ : ∃ L, L = linesD text := ⟨_, rfl⟩
  rw [← hL] at hL1 hL2 hll hel ⊢
  clear hL hE h0 hne
  refine go_loop (fun i : Nat => { env := [(3, .ptr 3 0), (4, .str (runD desk0 (L.take i)).2), (5, .sl none 1 (C.map V.str)), (6, .int .i64 (i : Nat))], loc := [], box := [(3, (runD desk0 (L.take i)).1.talk.cells ++ [.sl none 2 ((runD desk0 (L.take i)).1.recs.map Tap.v)])], stat := [] })
    (fun i => i ≤ L.length) (fun i => L.length - i) 0 (by omega) (Weak.of [] [(3, 3)] (by simp [runD, desk0, Talk.cells, Hello.cells])) ?_
  intro i hi
  obtain ⟨hb, ho⟩ := runD_facts (L.take i) desk0_bd (fun x hx => hL2 x (List.mem_of_mem_take hx))
  have hmin : min i L.length = i := by omega
  rw [List.length_take, hmin] at ho
  simp [Talk.cells, Hello.cells]
  refine ⟨by omega, ?_⟩
  refine goTest_dec (fun hlt => ?_) (fun hge => ?_)
  · have hlt' : i < L.length := by omega
    have hlc : i < C.length := by omega
    have hs : L.take (i + 1) = L.take i ++ [nth L i] := take_nth hlt'
    have hx := hL2 _ (nth_mem hlt')
    have hr := runD_snoc (L.take i) desk0 (nth L i)
    rw [← hs] at hr
    have f1 := l51Line_ok _ hb (nth L i) hx
    have f2 := lineD_len hb (nth L i)
    generalize runD desk0 (L.take i) = S at *
    generalize lineD S.1 (nth L i) = N at *
    simp [deskV, Talk.cells, Hello.cells] at f1
    simp [hlc, hel i hlt']
    refine goDCall_eq f1 (by simp) (by simp) ?_
    simp
    refine ⟨by omega, by omega, Again.mk (i + 1) hlt' (by omega) (Weak.of [] [(3, 3)] (by simp [hr, Talk.cells, Hello.cells]))⟩
  · obtain rfl : i = L.length := by omega
    rw [List.take_length] at *
    generalize runD desk0 L = S at *
    have f2 := decPos_ok S.1.recs.length (by have := hb.recs; omega) (by have := hb.recs; omega)
    have hd := decS_len20 (n := S.1.recs.length) (by have := hb.recs; omega)
    simp
    refine ⟨by omega, ?_⟩
    refine goCall_eq f2 (by simp) ?_
    simp
    refine ⟨by omega, by omega, ?_⟩
    exact Ends.mk [] [] (by simp [countT, tRecords])
end
section
set_option maxRecDepth 200000
set_option maxHeartbeats 8000000
attribute [-simp] List.getD_eq_getElem?_getD
inductive LnR (src : List UInt8) (a : Int) : V → List (List V) → Prop
  | mk (t : List UInt8) (b : Int) (h : t.length ≤ 40) (hb : a ≤ b ∧ b ≤ a + 10) : LnR src a (.str t) [[bsl src, .int .i64 b]]
theorem l92Line_ok (src : List UInt8) (a : Int) (h : 0 ≤ a ∧ a < 100000000) : ∃ R bo, LnR src a R bo ∧ Fn Tryz.prog fn_spec_l92Line [.ptr 1000 0] [[bsl src, .int .i64 a]] R bo := by
  refine Fx.of_go ln_spec_l92Line rfl ?_
  simp [ac_spec_l92Line, bsl]
  refine goPick (a := a) (n := 8) rfl (by omega) (by omega) fun r hr => ?_
  simp
  have h8 : r = 0 ∨ r = 1 ∨ r = 2 ∨ r = 3 ∨ r = 4 ∨ r = 5 ∨ r = 6 ∨ r = 7 := by omega
  rcases h8 with rfl | rfl | rfl | rfl | rfl | rfl | rfl | rfl
  · simp
    obtain ⟨t1, ht1, f1⟩ := of_ok src (a + 1) ([[97], [98], [97, 97], [98, 98]]) (by omega) (by simp) (by simp)
    have hl1 : t1.length ≤ 8 := (show ∀ y ∈ ([[97], [98], [97, 97], [98, 98]] : List (List UInt8)), y.length ≤ 8 by decide) t1 ht1
    simp only [ssl, bsl] at f1
    clear ht1
    refine goCall_gen [] [(1000, 1000)] [144] [] none f1 (by simp [bsl]) ?_
    simp
    refine ⟨by omega, ?_⟩
    obtain ⟨t2, ht2, f2⟩ := of_ok src (a + 1 + 1) ([[48], [48], [49], [50], [120]]) (by omega) (by simp) (by simp)
    have hl2 : t2.length ≤ 8 := (show ∀ y ∈ ([[48], [48], [49], [50], [120]] : List (List UInt8)), y.length ≤ 8 by decide) t2 ht2
    simp only [ssl, bsl] at f2
    clear ht2
    refine goCall_gen [] [(1000, 1000)] [208] [] none f2 (by simp [bsl]) ?_
    simp
    refine ⟨by omega, by omega, ?_⟩
    obtain ⟨t3, ht3, f3⟩ := of_ok src (a + 1 + 1 + 1) ([[104, 101, 108, 108, 111], [120], [], [116, 111, 109, 111, 114, 114, 111, 119]]) (by omega) (by simp) (by simp)
    have hl3 : t3.length ≤ 8 := (show ∀ y ∈ ([[104, 101, 108, 108, 111], [120], [], [116, 111, 109, 111, 114, 114, 111, 119]] : List (List UInt8)), y.length ≤ 8 by decide) t3 ht3
    simp only [ssl, bsl] at f3
    clear ht3
    refine goCall_gen [] [(1000, 1000)] [288] [] none f3 (by simp [bsl]) ?_
    simp
    exact ⟨by omega, _, _, .mk (t1 ++ [32] ++ t2 ++ [32] ++ t3) (a + 1 + 1 + 1 + 1) (by simp; omega) (by omega), Ends.mk [] [(1000, 1000)] (by simp [bsl])⟩
  · simp
    obtain ⟨t1, ht1, f1⟩ := of_ok src (a + 1) ([[97], [98], [97, 97], [98, 98]]) (by omega) (by simp) (by simp)
    have hl1 : t1.length ≤ 8 := (show ∀ y ∈ ([[97], [98], [97, 97], [98, 98]] : List (List UInt8)), y.length ≤ 8 by decide) t1 ht1
    simp only [ssl, bsl] at f1
    clear ht1
    refine goCall_gen [] [(1000, 1000)] [144] [] none f1 (by simp [bsl]) ?_
    simp
    refine ⟨by omega, ?_⟩
    obtain ⟨t2, ht2, f2⟩ := of_ok src (a + 1 + 1) ([[48], [48], [49], [50], [120]]) (by omega) (by simp) (by simp)
    have hl2 : t2.length ≤ 8 := (show ∀ y ∈ ([[48], [48], [49], [50], [120]] : List (List UInt8)), y.length ≤ 8 by decide) t2 ht2
    simp only [ssl, bsl] at f2
    clear ht2
    refine goCall_gen [] [(1000, 1000)] [208] [] none f2 (by simp [bsl]) ?_
    simp
    refine ⟨by omega, by omega, ?_⟩
    obtain ⟨t3, ht3, f3⟩ := of_ok src (a + 1 + 1 + 1) ([[104, 101, 108, 108, 111], [120], [], [116, 111, 109, 111, 114, 114, 111, 119]]) (by omega) (by simp) (by simp)
    have hl3 : t3.length ≤ 8 := (show ∀ y ∈ ([[104, 101, 108, 108, 111], [120], [], [116, 111, 109, 111, 114, 114, 111, 119]] : List (List UInt8)), y.length ≤ 8 by decide) t3 ht3
    simp only [ssl, bsl] at f3
    clear ht3
    refine goCall_gen [] [(1000, 1000)] [288] [] none f3 (by simp [bsl]) ?_
    simp
    exact ⟨by omega, _, _, .mk (t1 ++ [32] ++ t2 ++ [32] ++ t3) (a + 1 + 1 + 1 + 1) (by simp; omega) (by omega), Ends.mk [] [(1000, 1000)] (by simp [bsl])⟩
  · simp
    exact ⟨_, _, .mk [116, 97, 108, 107] (a + 1) (by simp) (by omega), Ends.mk [] [(1000, 1000)] (by simp [bsl])⟩
  · simp
    exact ⟨_, _, .mk [116, 97, 108, 107] (a + 1) (by simp) (by omega), Ends.mk [] [(1000, 1000)] (by simp [bsl])⟩
  · simp
    obtain ⟨t1, ht1, f1⟩ := of_ok src (a + 1) ([[100, 114, 111, 112], [116, 119, 105, 99, 101], [99, 117, 116], [102, 108, 105, 112]]) (by omega) (by simp) (by simp)
    have hl1 : t1.length ≤ 8 := (show ∀ y ∈ ([[100, 114, 111, 112], [116, 119, 105, 99, 101], [99, 117, 116], [102, 108, 105, 112]] : List (List UInt8)), y.length ≤ 8 by decide) t1 ht1
    simp only [ssl, bsl] at f1
    clear ht1
    refine goCall_gen [] [(1000, 1000)] [448] [] none f1 (by simp [bsl]) ?_
    simp
    refine ⟨by omega, ?_⟩
    obtain ⟨t2, ht2, f2⟩ := of_ok src (a + 1 + 1) ([[48], [49], [52], [53], [54], [55], [57, 57], [97]]) (by omega) (by simp) (by simp)
    have hl2 : t2.length ≤ 8 := (show ∀ y ∈ ([[48], [49], [52], [53], [54], [55], [57, 57], [97]] : List (List UInt8)), y.length ≤ 8 by decide) t2 ht2
    simp only [ssl, bsl] at f2
    clear ht2
    refine goCall_gen [] [(1000, 1000)] [512] [] none f2 (by simp [bsl]) ?_
    simp
    exact ⟨by omega, _, _, .mk (t1 ++ [32] ++ t2) (a + 1 + 1 + 1) (by simp; omega) (by omega), Ends.mk [] [(1000, 1000)] (by simp [bsl])⟩
  · simp
    obtain ⟨t1, ht1, f1⟩ := of_ok src (a + 1) ([[100, 114, 111, 112], [116, 119, 105, 99, 101], [99, 117, 116], [102, 108, 105, 112]]) (by omega) (by simp) (by simp)
    have hl1 : t1.length ≤ 8 := (show ∀ y ∈ ([[100, 114, 111, 112], [116, 119, 105, 99, 101], [99, 117, 116], [102, 108, 105, 112]] : List (List UInt8)), y.length ≤ 8 by decide) t1 ht1
    simp only [ssl, bsl] at f1
    clear ht1
    refine goCall_gen [] [(1000, 1000)] [448] [] none f1 (by simp [bsl]) ?_
    simp
    refine ⟨by omega, ?_⟩
    obtain ⟨t2, ht2, f2⟩ := of_ok src (a + 1 + 1) ([[48], [49], [52], [53], [54], [55], [57, 57], [97]]) (by omega) (by simp) (by simp)
    have hl2 : t2.length ≤ 8 := (show ∀ y ∈ ([[48], [49], [52], [53], [54], [55], [57, 57], [97]] : List (List UInt8)), y.length ≤ 8 by decide) t2 ht2
    simp only [ssl, bsl] at f2
    clear ht2
    refine goCall_gen [] [(1000, 1000)] [512] [] none f2 (by simp [bsl]) ?_
    simp
    exact ⟨by omega, _, _, .mk (t1 ++ [32] ++ t2) (a + 1 + 1 + 1) (by simp; omega) (by omega), Ends.mk [] [(1000, 1000)] (by simp [bsl])⟩
  · simp
    exact ⟨_, _, .mk [114, 101, 112, 111, 114, 116] (a + 1) (by simp) (by omega), Ends.mk [] [(1000, 1000)] (by simp [bsl])⟩
  · simp
    obtain ⟨t1, ht1, f1⟩ := of_ok src (a + 1) ([[], [119, 104, 97, 116], [97, 32, 48], [100, 114, 111, 112], [116, 97, 108, 107, 32, 110, 111, 119]]) (by omega) (by simp) (by simp)
    have hl1 : t1.length ≤ 8 := (show ∀ y ∈ ([[], [119, 104, 97, 116], [97, 32, 48], [100, 114, 111, 112], [116, 97, 108, 107, 32, 110, 111, 119]] : List (List UInt8)), y.length ≤ 8 by decide) t1 ht1
    simp only [ssl, bsl] at f1
    clear ht1
    refine goCall_gen [] [(1000, 1000)] [608] [] none f1 (by simp [bsl]) ?_
    simp
    exact ⟨_, _, .mk t1 (a + 1 + 1) (by omega) (by omega), Ends.mk [] [(1000, 1000)] (by simp [bsl])⟩
inductive ScR : V → List (List V) → Prop
  | mk (t : List UInt8) (h : t.length ≤ 100000) : ScR (.str t) []
theorem DrawExecute_ok (code : List UInt8) : ∃ t : List UInt8, t.length ≤ 100000 ∧ Fn Tryz.prog fn_spec_DrawExecute [bsl code] [] (.str t) [] := by
  obtain ⟨src, ho⟩ : ∃ s, Fn Tryz.prog fn_spec_l6Open [bsl code] [] (.ptr 1000 0) [[bsl s, .int .i64 0]] := ⟨_, open_ok code⟩
  suffices h : ∃ R bo, ScR R bo ∧ Fn Tryz.prog fn_spec_DrawExecute [bsl code] [] R bo by
    obtain ⟨_, _, ⟨l, h1⟩, f⟩ := h
    exact ⟨l, h1, f⟩
  refine Fx.of_go ln_spec_DrawExecute rfl ?_
  simp only [bsl] at ho
  simp [ac_spec_DrawExecute, bsl]
  refine goCall_gen [] [] [] [] (some 1000) ho (by simp [bsl]) ?_
  simp [bsl]
  refine goPick (n := 2) rfl (by omega) (by omega) fun r1 h1 => ?_
  simp
  refine goTest_dec (fun q1 => ?_) (fun q1 => ?_)
  · simp
    refine goPick (n := 14) rfl (by omega) (by omega) fun n hn => ?_
    simp
    refine go_loop (fun x : Nat × List UInt8 × Int => { env := [(3, .ptr 8 0), (4, .str x.2.1), (5, .int .i64 (n : Nat)), (6, .int .i64 (x.1 : Nat))], loc := [], box := [(8, [bsl src, .int .i64 x.2.2])], stat := [] })
      (fun x => x.1 ≤ n ∧ x.2.1.length ≤ 30 + 41 * x.1 ∧ 2 ≤ x.2.2 ∧ x.2.2 ≤ 2 + 10 * x.1) (fun x => n - x.1) (0, [97, 32, 48, 32, 104, 101, 108, 108, 111, 10, 98, 32, 48, 32, 120, 10, 116, 97, 108, 107, 10], 2) ⟨by simp, by simp, by simp, by simp⟩ (Weak.of [] [(8, 8)] (by simp [bsl])) ?_
    rintro ⟨i, o, e⟩ ⟨hi, ho1, he1, he2⟩
    simp at hi ho1 he1 he2
    simp [bsl]
    refine goTest_dec (fun hin => ?_) (fun hin => ?_)
    · obtain ⟨_, _, ⟨t, b, ht, hb⟩, f1⟩ := l92Line_ok src e (by omega)
      simp only [bsl] at f1
      simp
      refine goCall_gen [] [(1000, 8)] [] [] none f1 (by simp [bsl]) ?_
      simp
      exact ⟨by omega, by omega, by omega, Again.mk (i + 1, o ++ t ++ [10], b) ⟨by simp; omega, by simp; omega, by simp; omega, by simp; omega⟩ (by simp; omega) (Weak.of [] [(8, 8)] (by simp [bsl]))⟩
    · simp
      refine goPick (n := 24) rfl (by omega) (by omega) fun r2 h2 => ?_
      simp
      refine goTest_dec (fun q2 => ?_) (fun q2 => ?_)
      · simp
        refine goPick (n := 6) rfl (by omega) (by omega) fun r3 h3 => ?_
        simp
        refine ⟨by omega, ?_⟩
        have e3 : (82 : Int) + (r3 : Nat) = ((82 + r3 : Nat) : Int) := by omega
        rw [e3]
        refine goMany (82 + r3) (by simp; omega) (by omega) fun t3 ht3 => ?_
        have ht4 : t3.length ≤ 700 := by simp at ht3; omega
        clear ht3
        simp
        refine ⟨by omega, ?_⟩
        refine goPick (n := 8) rfl (by omega) (by omega) fun r5 h5 => ?_
        simp
        refine goTest_dec (fun q5 => ?_) (fun q5 => ?_)
        · obtain ⟨_, _, ⟨t5, b5, ht5, hb5⟩, f5⟩ := l92Line_ok src ((e + 1 + 1 + 1)) (by omega)
          simp only [bsl] at f5
          simp
          refine goCall_gen [] [(1000, 8)] [] [] none f5 (by simp [bsl]) ?_
          simp
          exact ⟨by omega, _, _, .mk (o ++ t3 ++ t5) (by simp; omega), Ends.mk [] [] (by simp)⟩
        · simp
          exact ⟨_, _, .mk (o ++ t3) (by first | omega | (simp; omega)), Ends.mk [] [] (by simp)⟩
      · simp
        refine goPick (n := 8) rfl (by omega) (by omega) fun r5 h5 => ?_
        simp
        refine goTest_dec (fun q5 => ?_) (fun q5 => ?_)
        · obtain ⟨_, _, ⟨t5, b5, ht5, hb5⟩, f5⟩ := l92Line_ok src ((e + 1 + 1)) (by omega)
          simp only [bsl] at f5
          simp
          refine goCall_gen [] [(1000, 8)] [] [] none f5 (by simp [bsl]) ?_
          simp
          exact ⟨by omega, _, _, .mk (o ++ t5) (by simp; omega), Ends.mk [] [] (by simp)⟩
        · simp
          exact ⟨_, _, .mk (o) (by first | omega | (simp; omega)), Ends.mk [] [] (by simp)⟩
  · simp
    refine goPick (n := 14) rfl (by omega) (by omega) fun n hn => ?_
    simp
    refine go_loop (fun x : Nat × List UInt8 × Int => { env := [(3, .ptr 8 0), (4, .str x.2.1), (5, .int .i64 (n : Nat)), (6, .int .i64 (x.1 : Nat))], loc := [], box := [(8, [bsl src, .int .i64 x.2.2])], stat := [] })
      (fun x => x.1 ≤ n ∧ x.2.1.length ≤ 30 + 41 * x.1 ∧ 2 ≤ x.2.2 ∧ x.2.2 ≤ 2 + 10 * x.1) (fun x => n - x.1) (0, [], 2) ⟨by simp, by simp, by simp, by simp⟩ (Weak.of [] [(8, 8)] (by simp [bsl])) ?_
    rintro ⟨i, o, e⟩ ⟨hi, ho1, he1, he2⟩
    simp at hi ho1 he1 he2
    simp [bsl]
    refine goTest_dec (fun hin => ?_) (fun hin => ?_)
    · obtain ⟨_, _, ⟨t, b, ht, hb⟩, f1⟩ := l92Line_ok src e (by omega)
      simp only [bsl] at f1
      simp
      refine goCall_gen [] [(1000, 8)] [] [] none f1 (by simp [bsl]) ?_
      simp
      exact ⟨by omega, by omega, by omega, Again.mk (i + 1, o ++ t ++ [10], b) ⟨by simp; omega, by simp; omega, by simp; omega, by simp; omega⟩ (by simp; omega) (Weak.of [] [(8, 8)] (by simp [bsl]))⟩
    · simp
      refine goPick (n := 24) rfl (by omega) (by omega) fun r2 h2 => ?_
      simp
      refine goTest_dec (fun q2 => ?_) (fun q2 => ?_)
      · simp
        refine goPick (n := 6) rfl (by omega) (by omega) fun r3 h3 => ?_
        simp
        refine ⟨by omega, ?_⟩
        have e3 : (82 : Int) + (r3 : Nat) = ((82 + r3 : Nat) : Int) := by omega
        rw [e3]
        refine goMany (82 + r3) (by simp; omega) (by omega) fun t3 ht3 => ?_
        have ht4 : t3.length ≤ 700 := by simp at ht3; omega
        clear ht3
        simp
        refine ⟨by omega, ?_⟩
        refine goPick (n := 8) rfl (by omega) (by omega) fun r5 h5 => ?_
        simp
        refine goTest_dec (fun q5 => ?_) (fun q5 => ?_)
        · obtain ⟨_, _, ⟨t5, b5, ht5, hb5⟩, f5⟩ := l92Line_ok src ((e + 1 + 1 + 1)) (by omega)
          simp only [bsl] at f5
          simp
          refine goCall_gen [] [(1000, 8)] [] [] none f5 (by simp [bsl]) ?_
          simp
          exact ⟨by omega, _, _, .mk (o ++ t3 ++ t5) (by simp; omega), Ends.mk [] [] (by simp)⟩
        · simp
          exact ⟨_, _, .mk (o ++ t3) (by first | omega | (simp; omega)), Ends.mk [] [] (by simp)⟩
      · simp
        refine goPick (n := 8) rfl (by omega) (by omega) fun r5 h5 => ?_
        simp
        refine goTest_dec (fun q5 => ?_) (fun q5 => ?_)
        · obtain ⟨_, _, ⟨t5, b5, ht5, hb5⟩, f5⟩ := l92Line_ok src ((e + 1 + 1)) (by omega)
          simp only [bsl] at f5
          simp
          refine goCall_gen [] [(1000, 8)] [] [] none f5 (by simp [bsl]) ?_
          simp
          exact ⟨by omega, _, _, .mk (o ++ t5) (by simp; omega), Ends.mk [] [] (by simp)⟩
        · simp
          exact ⟨_, _, .mk (o) (by first | omega | (simp; omega)), Ends.mk [] [] (by simp)⟩
end
section
set_option maxRecDepth 200000
theorem run_Empty : executeD [] = [114, 101, 99, 111, 114, 100, 115, 32, 48, 10] := by kernel_rfl
theorem run_Talk : executeD [97, 32, 48, 32, 104, 101, 108, 108, 111, 10, 98, 32, 48, 32, 120, 10, 116, 97, 108, 107, 10, 114, 101, 112, 111, 114, 116, 10] = [111, 107, 10, 111, 107, 10, 114, 101, 99, 111, 114, 100, 115, 32, 49, 51, 10, 114, 101, 99, 111, 114, 100, 115, 32, 49, 51, 10, 102, 114, 111, 109, 32, 55, 32, 116, 111, 32, 57, 32, 111, 118, 101, 114, 10, 97, 32, 48, 32, 48, 32, 54, 56, 54, 53, 54, 99, 54, 99, 54, 102, 32, 111, 107, 10, 98, 32, 48, 32, 48, 32, 55, 56, 32, 111, 107, 10, 102, 111, 117, 110, 100, 32, 48, 10, 114, 101, 99, 111, 114, 100, 115, 32, 49, 51, 10] := by kernel_rfl
theorem run_Drop : executeD [97, 32, 48, 32, 120, 10, 116, 97, 108, 107, 10, 100, 114, 111, 112, 32, 52, 10, 114, 101, 112, 111, 114, 116, 10] = [111, 107, 10, 114, 101, 99, 111, 114, 100, 115, 32, 57, 10, 111, 107, 10, 114, 101, 99, 111, 114, 100, 115, 32, 56, 10, 102, 114, 111, 109, 32, 55, 32, 116, 111, 32, 57, 32, 111, 118, 101, 114, 10, 102, 111, 117, 110, 100, 32, 49, 10, 52, 32, 57, 10, 114, 101, 99, 111, 114, 100, 115, 32, 56, 10] := by kernel_rfl
theorem run_Flip : executeD [116, 97, 108, 107, 10, 102, 108, 105, 112, 32, 48, 10, 99, 117, 116, 32, 49, 10, 114, 101, 112, 111, 114, 116, 10] = [114, 101, 99, 111, 114, 100, 115, 32, 55, 10, 111, 107, 10, 111, 107, 10, 114, 101, 99, 111, 114, 100, 115, 32, 55, 10, 102, 111, 117, 110, 100, 32, 55, 10, 48, 32, 49, 48, 50, 10, 49, 32, 49, 48, 50, 10, 50, 32, 49, 48, 52, 10, 51, 32, 49, 48, 52, 10, 52, 32, 49, 48, 52, 10, 53, 32, 49, 48, 52, 10, 54, 32, 49, 48, 52, 10, 114, 101, 99, 111, 114, 100, 115, 32, 55, 10] := by kernel_rfl
theorem run_Loose : executeD [97, 97, 32, 49, 32, 104, 105, 10, 97, 32, 49, 32, 104, 111, 10, 116, 97, 108, 107, 10, 116, 119, 105, 99, 101, 32, 52, 10, 114, 101, 112, 111, 114, 116, 10] = [111, 107, 10, 111, 107, 10, 114, 101, 99, 111, 114, 100, 115, 32, 49, 49, 10, 111, 107, 10, 114, 101, 99, 111, 114, 100, 115, 32, 49, 50, 10, 102, 114, 111, 109, 32, 55, 32, 116, 111, 32, 57, 32, 111, 118, 101, 114, 10, 97, 32, 49, 32, 45, 32, 54, 56, 54, 57, 32, 111, 107, 10, 97, 32, 49, 32, 48, 32, 54, 56, 54, 102, 32, 111, 107, 10, 102, 111, 117, 110, 100, 32, 48, 10, 114, 101, 99, 111, 114, 100, 115, 32, 49, 50, 10] := by kernel_rfl
theorem run_No : executeD [97, 32, 50, 32, 120, 10, 98, 32, 49, 32, 120, 10, 100, 114, 111, 112, 32, 48, 10, 97, 32, 48, 32, 10] = [110, 111, 10, 110, 111, 10, 110, 111, 10, 110, 111, 10, 114, 101, 99, 111, 114, 100, 115, 32, 48, 10] := by kernel_rfl
end
section
theorem u8n {k : Nat} (h : k < 10) : (UInt8.ofNat (48 + k)).toNat = 48 + k := UInt8.toNat_ofNat_of_lt' (by simp [UInt8.size]; omega)
theorem decS_no (n : Nat) : (10 : UInt8) ∉ decS n := by
  induction n using Nat.strongRecOn with
  | _ n ih =>
    rw [decS]
    have hd : ∀ k, k < 10 → (10 : UInt8) ≠ UInt8.ofNat (48 + k) := by
      intro k hk e
      have := congrArg UInt8.toNat e
      rw [u8n hk] at this
      simp at this
      omega
    split
    · rename_i h
      simp only [List.mem_singleton]
      exact hd n h
    · rename_i h
      simp only [List.mem_append, List.mem_singleton, not_or]
      exact ⟨ih (n / 10) (by omega), hd _ (by omega)⟩
end
end Go.Proofs.YtjkbbdmkgealfaaGreatDoor
