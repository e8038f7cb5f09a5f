/-
  Captures that were drawn; captures and runs of the program.
  From a contract over abstract values to what a row asks: the start, and arguments that are read.
  The library's variables at the start of a plain seat.
  How the program begins, told by its signs: what the row asks of it.
-/
import Derived.Test.YtpcfbgeabehmbaaGreatV31
import Derived.Test.YtpcfbgeabehmbaaGreatV17
import Derived.ProofKit
import Derived.HandedShaped
import Derived.Carry
import Derived.ChangeMaps5
import Derived.Test.YtpcfbgeabehmbaaGreatRows
namespace Go.Proofs.YtpcfbgeabehmbaaGreat
set_option linter.all false

section
set_option maxRecDepth 200000
set_option maxHeartbeats 16000000
attribute [-simp] List.getD_eq_getElem?_getD

theorem impl_CaptureValid_ok (l : List Tap) (hl : l.length ≤ 1000000) : Fn Tryz.prog fn_impl_CaptureValid [rsl l] [] (.bool (capOk l)) [] := by
  refine Fn.of_go ln_impl_CaptureValid rfl ?_
  simp [ac_impl_CaptureValid, rsl]
  refine goTest_dec (fun q0 => ?_) (fun q0 => ?_)
  · have e : capOk l = false := by simp [capOk]; intro _; omega
    simp
    exact Ends.mk [] [] (by simp [e])
  simp
  refine go_loop (fun x : Nat × Int => { env := [(3, .int .i64 x.2), (9, rsl l), (10, .int .i64 (l.length : Nat)), (11, .int .i64 (x.1 : Nat))], loc := [], box := [], stat := [] }) (fun x => x.1 ≤ l.length ∧ timesOk 0 l = timesOk x.2 (l.drop x.1)) (fun x => l.length - x.1) (0, 0) ⟨by simp, by simp⟩ (Weak.of [] [] (by simp [rsl])) ?_
  rintro ⟨i, low⟩ ⟨hi, ht⟩
  simp only at hi ht
  simp [rsl]
  refine goTest_dec (fun hlt => ?_) (fun hge => ?_)
  · have hd : l.drop i = nth l i :: l.drop (i + 1) := by rw [nth_eq hlt]; exact List.drop_eq_getElem_cons hlt
    rw [hd] at ht
    simp only [timesOk] at ht
    simp [hlt, rec_v]
    have no : ¬ (low ≤ (nth l i).time ∧ (nth l i).time ≤ 4294967295 ∧ (nth l i).text.length ≤ 120) → capOk l = false := by
      intro h
      have : timesOk 0 l = false := by
        rw [ht]
        simp
        intros; omega
      simp [capOk, this]
    cases d1 : decide ((nth l i).time < low)
    rotate_left
    · simp
      exact Ends.mk [] [] (by simp [no (by have := of_decide_eq_true d1; omega)])
    simp
    cases d2 : decide (4294967295 < (nth l i).time)
    rotate_left
    · simp
      exact Ends.mk [] [] (by simp [no (by have := of_decide_eq_true d2; omega)])
    simp
    cases d3 : decide (120 < (nth l i).text.length)
    rotate_left
    · simp
      exact Ends.mk [] [] (by simp [no (by have := of_decide_eq_true d3; omega)])
    have d1 := of_decide_eq_false d1
    have d2 := of_decide_eq_false d2
    have d3 := of_decide_eq_false d3
    have e1 : decide (low ≤ (nth l i).time) = true := decide_eq_true (by omega)
    have e2 : decide ((nth l i).time ≤ 4294967295) = true := decide_eq_true (by omega)
    have e3 : decide ((nth l i).text.length ≤ 120) = true := decide_eq_true (by omega)
    rw [e1, e2, e3] at ht
    simp
    exact ⟨by omega, Again.mk (i + 1, (nth l i).time) ⟨by simp; omega, by simpa using ht⟩ (by simp; omega) (Weak.of [] [] (by simp [rsl]))⟩
  · obtain rfl : i = l.length := by omega
    simp [timesOk] at ht
    have e : capOk l = true := by simp [capOk, ht]; omega
    simp
    exact Ends.mk [] [] (by simp [e])

theorem fold_ok {l : List Tap} (h : capOk l = true) {i : Nat} (hi : i ≤ l.length) : MonOk (foldM zMonitor (l.take i)) ∧ (foldM zMonitor (l.take i)).records = i := by
  have h1 := run_ok (capOk_take h i)
  have h2 : runS (l.take i) = foldM zMonitor (l.take i) := by unfold runS; rw [if_pos (capOk_take h i)]
  rw [h2] at h1
  refine ⟨h1.1, ?_⟩
  rw [h1.2]
  simp; omega

theorem impl_MonitorRun_ok (l : List Tap) (hl : l.length ≤ 1000000) (ht : ∀ r ∈ l, r.text.length ≤ 1000000) : Fn Tryz.prog fn_impl_MonitorRun [rsl l] [] (runS l).v [] := by
  refine Fn.of_go ln_impl_MonitorRun rfl ?_
  have f1 := impl_CaptureValid_ok l hl
  have hrs : runS l = if capOk l then foldM zMonitor l else zMonitor := rfl
  simp only [rsl] at f1
  simp [ac_impl_MonitorRun, rsl]
  refine goCall_eq f1 (by simp) ?_
  cases q : capOk l
  · rw [hrs, q, if_neg (by simp), zMonitor_v]
    simp
    exact Ends.mk [] [] (by simp)
  rw [hrs, q, if_pos rfl, mon_v]
  clear hrs
  have hlc : l.length ≤ 60 := by simp [capOk] at q; exact q.2
  simp
  refine go_loop (fun i : Nat => { env := [(2, .ptr 2 0), (3, .ptr 3 0), (11, rsl l), (12, .int .i64 (l.length : Nat)), (13, .int .i64 (i : Nat))], loc := [], box := [(2, List.replicate 3 .undef), (3, (foldM zMonitor (l.take i)).cells)], stat := [] }) (fun i => i ≤ l.length) (fun i => l.length - i) 0 (by omega) (Weak.of [] [(2, 2), (3, 3)] (by simp [rsl, List.replicate, foldM, zMonitor, Monitor.cells, fsl])) ?_
  intro i hi
  simp [rsl]
  refine goTest_dec (fun hlt => ?_) (fun hge => ?_)
  · obtain ⟨hb, hf, hr⟩ := fold_bd q hi
    obtain ⟨hk1, hk2⟩ := fold_ok q hi
    have g1 := impl_MonitorStep_ok (foldM zMonitor (l.take i)) (nth l i).text hb hf (ht _ (nth_mem hlt))
    have hs := take_nth hlt
    have hn : monS (foldM zMonitor (l.take i)) (nth l i).text = foldM zMonitor (l.take (i + 1)) := by
      rw [hs, foldM_snoc]
      unfold monS
      rw [mon_iff.2 hk1, hk2, if_pos (by simp; omega)]
    rw [hn] at g1
    simp only [mon_v] at g1
    simp [hlt, rec_v, Monitor.cells, fsl]
    refine goCall_eq g1 (by simp) ?_
    simp
    exact ⟨by omega, Again.mk (i + 1) hlt (by omega) (Weak.of [] [(2, 2), (3, 3)] (by simp [rsl, List.replicate, Monitor.cells, fsl]))⟩
  · obtain rfl : i = l.length := by omega
    simp [Monitor.cells, fsl]
    exact Ends.mk [] [] (by simp)

/-! ## Captures that were drawn -/

theorem setEl_text {l : List Tap} {j : Nat} {s : List UInt8} (h : j < l.length) : setEl j 1 [.str s] (l.map Tap.v) = (l.set j ⟨(nth l j).time, s⟩).map Tap.v := by
  unfold setEl
  rw [getD_map h, List.map_set]
  simp [rec_v, wrEl, setCells]
theorem setEl_time {l : List Tap} {j : Nat} {n : Int} (h : j < l.length) : setEl j 0 [.int .i64 n] (l.map Tap.v) = (l.set j ⟨n, (nth l j).text⟩).map Tap.v := by
  unfold setEl
  rw [getD_map h, List.map_set]
  simp [rec_v, wrEl, setCells]
theorem mem_set {α : Type} {l : List α} {i : Nat} {x y : α} (h : y ∈ l.set i x) : y ∈ l ∨ y = x := List.mem_or_eq_of_mem_set h

/-- A capture that was drawn. -/
structure capD (l : List Tap) (n t : Nat) : Prop where
  len : l.length ≤ n
  texts : ∀ r ∈ l, r.text.length ≤ t
theorem capD.set {l : List Tap} {n t : Nat} (h : capD l n t) (j : Nat) {r : Tap} (hr : r.text.length ≤ t) : capD (l.set j r) n t :=
  ⟨by simp; exact h.len, fun q hq => by
    rcases mem_set hq with a | a
    · exact h.texts q a
    · rw [a]; exact hr⟩
theorem capD.le {l : List Tap} {n t n' t' : Nat} (h : capD l n t) (h1 : n ≤ n') (h2 : t ≤ t') : capD l n' t' := ⟨by have := h.len; omega, fun r hr => by have := h.texts r hr; omega⟩

inductive CpR (src : List UInt8) (a k : Int) : V → List (List V) → Prop
  | mk (l : List Tap) (b : Int) (h : capD l 100 1000) (hb : a ≤ b ∧ b ≤ a + k) : CpR src a k (rsl l) [[bsl src, .int .i64 b]]

theorem l92Tape_ok (src : List UInt8) (a : Int) (h : 0 ≤ a ∧ a < 4000000) : ∃ R bo, CpR src a 1000 R bo ∧ Fn Tryz.prog fn_spec_l92Tape [.ptr 1000 0] [[bsl src, .int .i64 a]] R bo := by
  refine Fx.of_go ln_spec_l92Tape rfl ?_
  simp [ac_spec_l92Tape, bsl]
  refine goTalk rfl (by omega) fun t e ht he => ?_
  simp [talk_v]
  refine goPick (n := 9) rfl (by omega) (by omega) fun r0 h0 => ?_
  have f3 := spec_TalkRecords_own t r0 ht (by omega)
  obtain ⟨hrl, htx⟩ := records_small t r0
  generalize recordsT t r0 = TL at *
  simp only [talk_v] at f3
  simp
  refine goCall_eq f3 (by simp) ?_
  simp
  refine goPick (n := 4) rfl (by omega) (by omega) fun n hn => ?_
  simp
  refine go_loop (fun x : Nat × List Tap × Int => { env := [(0, .ptr 1000 0), (3, .sl (some 0) 2 (x.2.1.map Tap.v)), (4, .int .i64 (n : Nat)), (5, .int .i64 (x.1 : Nat))], loc := [], box := [(1000, [bsl src, .int .i64 x.2.2])], stat := [(0, some (.own x.2.1.length 2))] })
    (fun x => x.1 ≤ n ∧ capD x.2.1 (60 + x.1) (120 + x.1) ∧ a ≤ x.2.2 ∧ x.2.2 ≤ a + 200 + 20 * x.1) (fun x => n - x.1) (0, TL, e + 1 + 1) ⟨by simp, ⟨by simpa using hrl, by simpa using htx⟩, by simp; omega, by simp; omega⟩ (Weak.of [(0, some 192, TL.length, 2)] [(1000, 1000)] (by simp [bsl])) ?_
  rintro ⟨i, l, b⟩ ⟨hi, hl, hb1, hb2⟩
  simp only at hi hl hb1 hb2
  have hll := hl.len
  simp [bsl]
  cases w : decide (i < n)
  · simp
    exact ⟨_, _, .mk l b (hl.le (by omega) (by omega)) (by omega), Ends.mk [] [(1000, 1000)] (by simp [bsl, rsl])⟩
  have w := of_decide_eq_true w
  simp
  refine goTest_dec (fun w1 => ?_) (fun w1 => ?_)
  rotate_left
  · simp
    exact ⟨_, _, .mk l b (hl.le (by omega) (by omega)) (by omega), Ends.mk [] [(1000, 1000)] (by simp [bsl, rsl])⟩
  simp
  refine goPick rfl (by omega) (by omega) fun k hk => ?_
  have hkl : k < l.length := by omega
  simp
  refine goPick (n := 4) rfl (by omega) (by omega) fun c hc => ?_
  simp
  have hnk := hl.texts _ (nth_mem hkl)
  have etk : List.take l.length (l.map Tap.v) = l.map Tap.v := List.take_of_length_le (by simp)
  have hvt : ∀ j, ∀ z ∈ List.take j (l.map Tap.v), z.cells.length = 2 := by
    intro j z hz
    obtain ⟨x, _, rfl⟩ := List.mem_map.1 (List.mem_of_mem_take hz)
    rfl
  have hvd : ∀ j, ∀ z ∈ List.drop j (l.map Tap.v), z.cells.length = 2 := by
    intro j z hz
    obtain ⟨x, _, rfl⟩ := List.mem_map.1 (List.mem_of_mem_drop hz)
    rfl
  have hcut : ∀ u v, u + (l.length - v) ≤ 60 + i + 1 → capD (l.take u ++ l.drop v) (60 + (i + 1)) (120 + (i + 1)) := by
    intro u v huv
    refine ⟨by simp; omega, fun r hr => ?_⟩
    rcases List.mem_append.1 hr with q | q
    · have := hl.texts r (List.mem_of_mem_take q); omega
    · have := hl.texts r (List.mem_of_mem_drop q); omega
  refine goTest_dec (fun z0 => ?_) (fun z0 => ?_)
  · simp [z0, etk]
    refine ⟨by omega, ⟨hvt _, by unfold roomOk; omega⟩, by omega, ⟨by omega, by omega⟩, ⟨hvd _, by unfold roomOk; omega⟩, by omega, ?_⟩
    exact Again.mk (i + 1, l.take k ++ l.drop (k + 1), b + 1 + 1) ⟨by simp; omega, hcut _ _ (by omega), by simp; omega, by simp; omega⟩ (by simp; omega) (Weak.of [(0, some 528, min k l.length + (l.length - (k + 1)), 2)] [(1000, 1000)] (by simp [bsl, List.map_take, List.map_drop]))
  simp [z0]
  refine goTest_dec (fun z1 => ?_) (fun z1 => ?_)
  · simp [z1, etk]
    refine ⟨by omega, ⟨by omega, by omega⟩, ⟨hvt _, by unfold roomOk; omega⟩, by omega, ⟨hvd _, by unfold roomOk; omega⟩, by omega, ?_⟩
    exact Again.mk (i + 1, l.take (k + 1) ++ l.drop k, b + 1 + 1) ⟨by simp; omega, hcut _ _ (by omega), by simp; omega, by simp; omega⟩ (by simp; omega) (Weak.of [(0, some 720, min (k + 1) l.length + (l.length - k), 2)] [(1000, 1000)] (by simp [bsl, List.map_take, List.map_drop]))
  simp [z1]
  refine goTest_dec (fun z2 => ?_) (fun z2 => ?_)
  · simp [z2, hkl, rec_v]
    obtain ⟨_, _, ⟨s, b5, hs5, hb5⟩, f5⟩ := spoil_ok src (b + 1 + 1) (nth l k).text (by omega) (by omega)
    simp only [bsl] at f5
    refine goCall_gen [] [(1000, 1000)] [] [] none f5 (by simp [bsl]) ?_
    simp [hkl]
    have hst := setEl_text (s := s) hkl
    exact ⟨by omega, Again.mk (i + 1, l.set k ⟨(nth l k).time, s⟩, b5) ⟨by simp; omega, (hl.le (by omega) (by omega)).set k (by simp; omega), by simp; omega, by simp; omega⟩ (by simp; omega) (Weak.of [(0, some 0, l.length, 2)] [(1000, 1000)] (by simp [bsl, hst]))⟩
  simp [z2]
  refine goTest_dec (fun z3 => ?_) (fun z3 => ?_)
  · have hd : ((k : Int) / 2).toNat = k / 2 := by omega
    have hk2 : k / 2 < l.length := by omega
    simp [z3, hkl, rec_v, hd, hk2]
    have hs1 := setEl_text (s := (nth l (k / 2)).text) hkl
    have hk3 : k / 2 < (l.set k ⟨(nth l k).time, (nth l (k / 2)).text⟩).length := by simpa using hk2
    have hs2 := setEl_text (s := (nth l k).text) hk3
    have hs3 : setEl (k / 2) 1 [.str (nth l k).text] ((l.map Tap.v).set k (Tap.v ⟨(nth l k).time, (nth l (k / 2)).text⟩)) = ((l.set k ⟨(nth l k).time, (nth l (k / 2)).text⟩).set (k / 2) ⟨(nth (l.set k ⟨(nth l k).time, (nth l (k / 2)).text⟩) (k / 2)).time, (nth l k).text⟩).map Tap.v := by rw [← List.map_set]; exact hs2
    have hnk2 := hl.texts _ (nth_mem hk2)
    simp only [hs1, List.length_map, List.length_set]
    refine ⟨by omega, ⟨by omega, by omega⟩, by omega, ⟨by omega, by omega⟩, ⟨trivial, by omega⟩, by omega, ?_⟩
    exact Again.mk (i + 1, (l.set k ⟨(nth l k).time, (nth l (k / 2)).text⟩).set (k / 2) ⟨(nth (l.set k ⟨(nth l k).time, (nth l (k / 2)).text⟩) (k / 2)).time, (nth l k).text⟩, b + 1 + 1) ⟨by simp; omega, ((hl.le (by omega) (by omega)).set k (by simp; omega)).set _ (by simp; omega), by simp; omega, by simp; omega⟩ (by simp; omega) (Weak.of [(0, some 0, l.length, 2)] [(1000, 1000)] (by simp [bsl, hs3]))
  simp [z3]
  exact ⟨by omega, Again.mk (i + 1, l, b + 1 + 1) ⟨by simp; omega, hl.le (by simp) (by simp), by simp; omega, by simp; omega⟩ (by simp; omega) (Weak.of [(0, some 0, l.length, 2)] [(1000, 1000)] (by simp [bsl]))⟩

theorem l91Records_ok (src : List UInt8) (a : Int) (h : 0 ≤ a ∧ a < 4000000) : ∃ R bo, CpR src a 2000 R bo ∧ Fn Tryz.prog fn_spec_l91Records [.ptr 1000 0] [[bsl src, .int .i64 a]] R bo := by
  refine Fx.of_go ln_spec_l91Records rfl ?_
  simp [ac_spec_l91Records, bsl]
  refine goPick (n := 4) rfl (by omega) (by omega) fun r0 h0 => ?_
  simp
  refine goPick (n := 24) rfl (by omega) (by omega) fun r1 h1 => ?_
  simp
  refine goTest_dec (fun q => ?_) (fun q => ?_)
  · simp
    refine goPick (n := 5) rfl (by omega) (by omega) fun r9 h9 => ?_
    simp
    refine ⟨by omega, ?_⟩
    refine goPick (n := 5) rfl (by omega) (by omega) fun t0 ht0 => ?_
    simp
    refine go_loop (fun x : Nat × List Tap × Int × Int => { env := [(0, .ptr 1000 0), (3, .sl (some 0) 2 (x.2.1.map Tap.v)), (4, .int .i64 (58 + (r9 : Int))), (5, .int .i64 x.2.2.1), (6, .int .i64 (x.1 : Nat))], loc := [], box := [(1000, [bsl src, .int .i64 x.2.2.2])], stat := [(0, some (.own x.2.1.length 2))] })
      (fun x => (x.1 : Int) ≤ (58 + (r9 : Int)) ∧ x.2.1.length = x.1 ∧ (∀ r ∈ x.2.1, r.text.length ≤ 120) ∧ (0 ≤ x.2.2.1 ∧ x.2.2.1 ≤ 10 + 3 * x.1) ∧ a ≤ x.2.2.2 ∧ x.2.2.2 ≤ a + 10 + 20 * x.1) (fun x => 100 - x.1) (0, [], t0, (a + 1 + 1 + 1 + 1)) ⟨by simp <;> omega, rfl, by simp, by simp <;> omega, by simp <;> omega, by simp <;> omega⟩ (Weak.of [(0, some 112, 0, 2)] [(1000, 1000)] (by simp [bsl])) ?_
    rintro ⟨i, l, tm, b⟩ ⟨hi, hl, htx, htm, hb1, hb2⟩
    simp only at hi hl htx htm hb1 hb2
    simp [bsl]
    refine goTest_dec (fun w => ?_) (fun w => ?_)
    · simp
      obtain ⟨_, _, ⟨s, b5, hs5, hb5⟩, f5⟩ := l91Bytes_ok src b 6 (by omega) (by omega)
      simp only [bsl] at f5
      refine goCall_gen [] [(1000, 1000)] [] [] none f5 (by simp [bsl]) ?_
      simp
      refine ⟨by unfold roomOk; omega, ?_⟩
      refine goPick (n := 3) rfl (by omega) (by omega) fun r2 h2 => ?_
      simp
      exact ⟨by omega, by omega, Again.mk (i + 1, l ++ [⟨tm, s⟩], tm + r2, b5 + 1) ⟨by simp; omega, by simp [hl], fun r hr => by
        rcases List.mem_append.1 hr with q | q
        · exact htx r q
        · rw [List.mem_singleton.1 q]; simp; omega, by simp; omega, by simp; omega, by simp; omega⟩ (by simp; omega) (Weak.of [(0, some 0, l.length + 1, 2)] [(1000, 1000)] (by simp [bsl, rec_v]))⟩
    have hcd : capD l 100 1000 := ⟨by omega, fun r hr => by have := htx r hr; omega⟩
    simp
    refine goTest_dec (fun w2 => ?_) (fun w2 => ?_)
    rotate_left
    · simp
      exact ⟨_, _, .mk l b hcd (by omega), Ends.mk [] [(1000, 1000)] (by simp [bsl, rsl])⟩
    simp
    refine goPick (n := 20) rfl (by omega) (by omega) fun c hc => ?_
    simp
    refine goTest_dec (fun z0 => ?_) (fun z0 => ?_)
    · simp [z0]
      refine goPick rfl (by omega) (by omega) fun j hj => ?_
      have hj2 : j < l.length := by omega
      simp
      obtain ⟨_, _, ⟨n, b6, hn6, hb6⟩, f6⟩ := l91Long_ok src (b + 1 + 1) (by omega)
      simp only [bsl] at f6
      refine goCall_gen [] [(1000, 1000)] [] [] none f6 (by simp [bsl]) ?_
      have hst := setEl_time (n := n) hj2
      have hjt := htx _ (nth_mem hj2)
      simp [hj2, rec_v]
      exact ⟨_, _, .mk (l.set j ⟨n, (nth l j).text⟩) b6 (hcd.set j (by simp; omega)) (by omega), Ends.mk [] [(1000, 1000)] (by simp [bsl, rsl, hst])⟩
    simp [z0]
    refine goTest_dec (fun z1 => ?_) (fun z1 => ?_)
    · simp [z1]
      refine goPick rfl (by omega) (by omega) fun j hj => ?_
      have hj2 : j < l.length := by omega
      simp
      refine goPick (n := 3) rfl (by omega) (by omega) fun r3 h3 => ?_
      obtain ⟨s, hs, f6⟩ := l6Many_ok [122] (119 + r3) (by simp; omega) (by omega)
      rw [Int.natCast_add] at f6
      simp at hs
      simp
      refine ⟨by omega, ?_⟩
      refine goCall_eq f6 (by simp) ?_
      have hst := setEl_text (s := s) hj2
      simp [hj2, rec_v]
      exact ⟨_, _, .mk (l.set j ⟨(nth l j).time, s⟩) (b + 1 + 1 + 1) (hcd.set j (by simp; omega)) (by omega), Ends.mk [] [(1000, 1000)] (by simp [bsl, rsl, hst])⟩
    simp [z1]
    exact ⟨_, _, .mk l (b + 1) hcd (by omega), Ends.mk [] [(1000, 1000)] (by simp [bsl, rsl])⟩
  · simp
    refine goPick (n := 5) rfl (by omega) (by omega) fun t0 ht0 => ?_
    simp
    refine go_loop (fun x : Nat × List Tap × Int × Int => { env := [(0, .ptr 1000 0), (3, .sl (some 0) 2 (x.2.1.map Tap.v)), (4, .int .i64 (r0 : Int)), (5, .int .i64 x.2.2.1), (6, .int .i64 (x.1 : Nat))], loc := [], box := [(1000, [bsl src, .int .i64 x.2.2.2])], stat := [(0, some (.own x.2.1.length 2))] })
      (fun x => (x.1 : Int) ≤ (r0 : Int) ∧ x.2.1.length = x.1 ∧ (∀ r ∈ x.2.1, r.text.length ≤ 120) ∧ (0 ≤ x.2.2.1 ∧ x.2.2.1 ≤ 10 + 3 * x.1) ∧ a ≤ x.2.2.2 ∧ x.2.2.2 ≤ a + 10 + 20 * x.1) (fun x => 100 - x.1) (0, [], t0, (a + 1 + 1 + 1)) ⟨by simp <;> omega, rfl, by simp, by simp <;> omega, by simp <;> omega, by simp <;> omega⟩ (Weak.of [(0, some 112, 0, 2)] [(1000, 1000)] (by simp [bsl])) ?_
    rintro ⟨i, l, tm, b⟩ ⟨hi, hl, htx, htm, hb1, hb2⟩
    simp only at hi hl htx htm hb1 hb2
    simp [bsl]
    refine goTest_dec (fun w => ?_) (fun w => ?_)
    · simp
      obtain ⟨_, _, ⟨s, b5, hs5, hb5⟩, f5⟩ := l91Bytes_ok src b 6 (by omega) (by omega)
      simp only [bsl] at f5
      refine goCall_gen [] [(1000, 1000)] [] [] none f5 (by simp [bsl]) ?_
      simp
      refine ⟨by unfold roomOk; omega, ?_⟩
      refine goPick (n := 3) rfl (by omega) (by omega) fun r2 h2 => ?_
      simp
      exact ⟨by omega, by omega, Again.mk (i + 1, l ++ [⟨tm, s⟩], tm + r2, b5 + 1) ⟨by simp; omega, by simp [hl], fun r hr => by
        rcases List.mem_append.1 hr with q | q
        · exact htx r q
        · rw [List.mem_singleton.1 q]; simp; omega, by simp; omega, by simp; omega, by simp; omega⟩ (by simp; omega) (Weak.of [(0, some 0, l.length + 1, 2)] [(1000, 1000)] (by simp [bsl, rec_v]))⟩
    have hcd : capD l 100 1000 := ⟨by omega, fun r hr => by have := htx r hr; omega⟩
    simp
    refine goTest_dec (fun w2 => ?_) (fun w2 => ?_)
    rotate_left
    · simp
      exact ⟨_, _, .mk l b hcd (by omega), Ends.mk [] [(1000, 1000)] (by simp [bsl, rsl])⟩
    simp
    refine goPick (n := 20) rfl (by omega) (by omega) fun c hc => ?_
    simp
    refine goTest_dec (fun z0 => ?_) (fun z0 => ?_)
    · simp [z0]
      refine goPick rfl (by omega) (by omega) fun j hj => ?_
      have hj2 : j < l.length := by omega
      simp
      obtain ⟨_, _, ⟨n, b6, hn6, hb6⟩, f6⟩ := l91Long_ok src (b + 1 + 1) (by omega)
      simp only [bsl] at f6
      refine goCall_gen [] [(1000, 1000)] [] [] none f6 (by simp [bsl]) ?_
      have hst := setEl_time (n := n) hj2
      have hjt := htx _ (nth_mem hj2)
      simp [hj2, rec_v]
      exact ⟨_, _, .mk (l.set j ⟨n, (nth l j).text⟩) b6 (hcd.set j (by simp; omega)) (by omega), Ends.mk [] [(1000, 1000)] (by simp [bsl, rsl, hst])⟩
    simp [z0]
    refine goTest_dec (fun z1 => ?_) (fun z1 => ?_)
    · simp [z1]
      refine goPick rfl (by omega) (by omega) fun j hj => ?_
      have hj2 : j < l.length := by omega
      simp
      refine goPick (n := 3) rfl (by omega) (by omega) fun r3 h3 => ?_
      obtain ⟨s, hs, f6⟩ := l6Many_ok [122] (119 + r3) (by simp; omega) (by omega)
      rw [Int.natCast_add] at f6
      simp at hs
      simp
      refine ⟨by omega, ?_⟩
      refine goCall_eq f6 (by simp) ?_
      have hst := setEl_text (s := s) hj2
      simp [hj2, rec_v]
      exact ⟨_, _, .mk (l.set j ⟨(nth l j).time, s⟩) (b + 1 + 1 + 1) (hcd.set j (by simp; omega)) (by omega), Ends.mk [] [(1000, 1000)] (by simp [bsl, rsl, hst])⟩
    simp [z1]
    exact ⟨_, _, .mk l (b + 1) hcd (by omega), Ends.mk [] [(1000, 1000)] (by simp [bsl, rsl])⟩

/-- A capture, as it is handed back. -/
inductive CrR : V → List (List V) → Prop
  | mk (l : List Tap) (h : capD l 100 1000) : CrR (rsl l) []

theorem DrawMonitorRun_ok (code : List UInt8) : ∃ l, capD l 100 1000 ∧ Fn Tryz.prog fn_spec_DrawMonitorRun [bsl code] [] (rsl l) [] := by
  obtain ⟨src, ho⟩ : ∃ s, Fn Tryz.prog fn_spec_l6Open [bsl code] [] (.ptr 1000 0) [[bsl s, .int .i64 0]] := ⟨_, open_ok code⟩
  suffices h : ∃ R bo, CrR R bo ∧ Fn Tryz.prog fn_spec_DrawMonitorRun [bsl code] [] R bo by
    obtain ⟨_, _, ⟨l, h1⟩, f⟩ := h
    exact ⟨l, h1, f⟩
  refine Fx.of_go ln_spec_DrawMonitorRun rfl ?_
  simp only [bsl] at ho
  simp [ac_spec_DrawMonitorRun, bsl]
  refine goCall_gen [] [] [] [] (some 1000) ho (by simp [bsl]) ?_
  simp [bsl]
  refine goPick (n := 16) rfl (by omega) (by omega) fun r1 h1 => ?_
  simp
  refine goTest_dec (fun q => ?_) (fun q => ?_)
  · simp
    obtain ⟨_, _, ⟨l, b, hl, hb⟩, f2⟩ := l91Records_ok src 1 (by omega)
    simp only [bsl, rsl] at f2
    refine goCall_gen [] [(1000, 5)] [] [] none f2 (by simp [bsl]) ?_
    simp
    exact ⟨_, _, .mk l hl, Ends.mk [] [] (by simp [rsl])⟩
  · simp
    obtain ⟨_, _, ⟨l, b, hl, hb⟩, f2⟩ := l92Tape_ok src 1 (by omega)
    simp only [bsl, rsl] at f2
    refine goCall_gen [] [(1000, 5)] [] [] none f2 (by simp [bsl]) ?_
    simp
    exact ⟨_, _, .mk l hl, Ends.mk [] [] (by simp [rsl])⟩
end

section
open Go.ChangeShapes Go.WideShapes Go.ChangeAt Go.RowKit

/-- At the start nobody owns anything. -/
def γ0 : Ghost := ⟨fun _ => none, fun _ => none, fun _ => none, fun _ => False⟩

theorem hinv0 (w : World) : HInv (.ofGhost w γ0) (boxesOf []) [] γ0 w :=
  ⟨fun d cs hl => by simp [boxesOf, boxesFrom, lookB] at hl, ⟨fun d g hg => by simp [γ0] at hg, fun d g hg => by simp [Ctx.ofGhost, γ0] at hg⟩,
    fun σ top sz hs => by simp [lookS] at hs, fun g x hg => by simp [γ0] at hg, ⟨rfl, fun g hg => hg.elim⟩, ⟨rfl, rfl, rfl, Nat.le_refl _, fun _ _ _ => rfl⟩⟩

/-- A contract that asks for no variables, at the start. -/
theorem Fn.calls {P : Program} {f : FuncId} {args : List V} {R : V} (hf : Fn P f args [] R []) (hargs : argStat args [] = []) (w : World) (vs : List Value) (hT : Tb (γ0.un w) w) (hc : CellsRel [] γ0 w args vs) :
    Calls P f vs.toArray w fun e w' => ∃ v γ', e = .returned v ∧ VRel (resStat R []) γ' w' R v ∧ Below w.heap.size w w' := by
  have h1 : HInv (.ofGhost w γ0) (boxesOf []) (argStat args []) γ0 w := by rw [hargs]; exact hinv0 w
  refine (hf w γ0 vs hT h1 (by rw [hargs]; exact hc)).mono fun e w' hex => ?_
  obtain ⟨v, γ', rfl, hH, hv⟩ := hex
  exact ⟨v, γ', rfl, hv, hH.frame.os, hH.frame.tape, hH.frame.output, hH.frame.size, fun g hg => hH.frame.same g hg (by simp [Ctx.ofGhost, γ0])⟩

theorem Fn.calls_true {P : Program} {f : FuncId} {args : List V} (hf : Fn P f args [] (.bool true) []) (hargs : argStat args [] = []) (w : World) (vs : List Value) (hT : Tb (γ0.un w) w) (hc : CellsRel [] γ0 w args vs) :
    Calls P f vs.toArray w fun e w' => e = .returned (.bool true) ∧ Below w.heap.size w w' := by
  refine (hf.calls hargs w vs hT hc).mono fun e w' hex => ?_
  obtain ⟨v, γ', rfl, hv, hb⟩ := hex
  refine ⟨?_, hb⟩
  cases hv with
  | base h => cases h with
    | bool b => rfl

theorem rel_one {w : World} {x : V} {v : Value} (h : VRel [] γ0 w x v) : CellsRel [] γ0 w [x] [v] :=
  ⟨rfl, fun k h1 h2 => by match k with | 0 => exact h⟩

theorem rel_two {w : World} {x y : V} {v u : Value} (h : VRel [] γ0 w x v) (h' : VRel [] γ0 w y u) : CellsRel [] γ0 w [x, y] [v, u] :=
  ⟨rfl, fun k h1 h2 => by match k with | 0 => exact h | 1 => exact h'⟩

theorem flat_bytes : ∀ l : List UInt8, flat (l.map byteV) = l.map byteV
  | [] => rfl
  | z :: r => by
    have := flat_bytes r
    unfold flat at this ⊢
    rw [List.map_cons, List.flatMap_cons, this]
    rfl

/-- A slice of bytes that is read. -/
theorem rel_bytes {P : Program} {W : World} {base t e : Nat} {v : Value} (ht : P.underlying t = some (.slice e)) (hval : Value.okWide P W .any base t v)
    (h : v = .slice none 0 0 ∨ ∃ (a : Addr) (len cap : Nat) (zs : List Int), v = .slice (some a) len cap ∧ len ≤ cap ∧ cap ≤ maxLen ∧ len ≤ zs.length ∧
      (∀ i, i < zs.length → W.cell? (a.add i) = some (.int .u8 (zs.getD i 0))) ∧ ∀ n ∈ zs, (Lit.int .u8 n).wf = true) :
    ∃ l, VRel [] γ0 W (bsl l) v := by
  rcases h with rfl | ⟨a, len, cap, zs, rfl, hl, hm, hz, hcell, hwz⟩
  · exact ⟨[], .base (.slnil 1)⟩
  · have hh : W.has P .any base a e cap := by
      simp only [Value.okWide, ht, Cell.okWide, Cell.ok] at hval
      exact hval.2.2
    obtain ⟨_, hsp, row, cells, hsh, _⟩ := hh
    obtain ⟨b, off, spot⟩ := a
    simp only at hsp
    subst hsp
    have hblk : ∃ c e fr, W.heap[b]? = some (.cells c e fr) := by
      simp only [World.shape?] at hsh
      cases hb : W.heap[b]? with
      | none => rw [hb] at hsh; simp at hsh
      | some o =>
        rw [hb] at hsh
        cases o with
        | cells c e fr => exact ⟨c, e, fr, rfl⟩
        | _ => simp at hsh
    obtain ⟨c, e', fr, hg⟩ := hblk
    have hr : ∀ n ∈ zs, 0 ≤ n ∧ n ≤ 255 := fun n hn => by
      have := hwz n hn
      simpa [Lit.wf, IntKind.min, IntKind.max, IntKind.signed, IntKind.bits] using this
    obtain ⟨l, hll, hbv⟩ : ∃ l : List UInt8, l.length = len ∧ ∀ i (h : i < l.length), W.cell? ⟨b, off + i, none⟩ = some (.int .u8 (l[i].toNat : Int)) := by
      refine ⟨(zs.take len).map (fun z => UInt8.ofNat z.toNat), by simp; omega, fun i hi => ?_⟩
      have hi2 : i < zs.length := by simp at hi; omega
      have h1 := hcell i hi2
      have e1 : zs.getD i 0 = zs[i] := by rw [List.getD_eq_getElem?_getD, List.getElem?_eq_getElem hi2]; rfl
      obtain ⟨h2, h3⟩ := hr _ (List.getElem_mem hi2)
      rw [e1] at h1
      have e2 : ((zs.take len).map (fun z => UInt8.ofNat z.toNat))[i] = UInt8.ofNat zs[i].toNat := by simp
      rw [e2, UInt8.toNat_ofNat_of_lt' (by simp [UInt8.size]; omega), Int.toNat_of_nonneg h2]
      have e3 : Addr.add ⟨b, off, none⟩ i = ⟨b, off + i, none⟩ := by unfold Addr.add; split <;> simp_all
      rw [← e3]; exact h1
    have hfl : flat (l.map byteV) = l.map byteV := flat_bytes l
    have key := PRel.sl (O := γ0.O) (w := W) 1 (l.map byteV) b off cap c e' fr (l.map fun z => Value.int .u8 (z.toNat : Int)) hg (by simp [Ghost.O, γ0]) (by simpa [hll] using hl) hm
      (fun x hx => by
        obtain ⟨u, _, rfl⟩ := List.mem_map.1 hx
        rfl) (by rw [hfl]; simp) (fun k hk => ?_) (fun u hu => ?_) (fun k h1 h2 => ?_)
    · have e2 : (l.map byteV).length = len := by simpa using hll
      rw [e2] at key
      exact ⟨l, .base key⟩
    · have hk2 : k < l.length := by simpa using hk
      have h1 := hbv k hk2
      simp only [World.cell?, hg] at h1
      rw [List.getElem?_map, List.getElem?_eq_getElem hk2]
      simpa using h1
    · obtain ⟨z, _, rfl⟩ := List.mem_map.1 hu
      rfl
    · simp only [hfl, List.getElem_map, byteV]
      exact .int _ _

/-- An argument of bytes. -/
theorem open_bytes {H : Type} {enc : TypeId × Value → H} {P : Program} {W : World} {base t e : Nat} {v : Value} {d : DataW H} {ps : List MemPlace} (ht : P.underlying t = some (.slice e)) (he : P.underlying e = some (.int .u8)) (hc : P.cellsOf e = 1)
    (hval : Value.okWide P W .any base t v) (h0 : DataW.Trod enc P W 0 (fun _ => true) true t v d ps) : ∃ l, VRel [] γ0 W (bsl l) v := by
  obtain ⟨fuel, hf⟩ := h0
  refine rel_bytes ht hval ?_
  obtain ⟨a0, len, cap, rfl⟩ := okWide_slice ht hval
  rcases open_ints ht he hc hf with ⟨hcs, hx⟩ | ⟨a, len', cap', zs, hcs, _, hl, hm, hz, hx, hcell, hwz⟩
  · simp [Value.cells] at hcs
    obtain ⟨rfl, rfl, rfl⟩ := hcs
    exact .inl rfl
  · simp [Value.cells] at hcs
    obtain ⟨rfl, rfl, rfl⟩ := hcs
    simp only [if_true] at hz
    exact .inr ⟨a, len, cap, zs, rfl, hl, hm, by omega, hcell, hwz⟩
end

section
open Go.ChangeShapes Go.WideShapes Go.ChangeAt Go.RowKit

theorem tabsW (W : World) (hsh : W.ShapedOpen Tryz.prog) : Tb (γ0.un W) W := by
  constructor
end

section
set_option maxRecDepth 100000
open Go.RowKit

theorem initText : Tryz.prog.initOrder = "harness 31ebedbb298e8b3372e51c959eb82d779c640fd21dee86f5275f4eeb25deab0a cut at loop.example/capturemonitor/laws.FnMonitorNoise loop.example/capturemonitor/laws.FnMonitorPart loop.example/capturemonitor/laws.FnMonitorRun loop.example/capturemonitor/laws.FnMonitorTimes loop.example/capturemonitor/laws.FnMonitorBad loop.example/capturemonitor/laws.FnMonitorBegin loop.example/capturemonitor/laws.FnMonitorBroken loop.example/capturemonitor/laws.FnMonitorFound loop.example/capturemonitor/laws.FnMonitorStep loop.example/capturemonitor/laws.FnMonitorKnown loop.example/capturemonitor/laws.FnMonitorOthers loop.example/capturemonitor/laws.FnMonitorStray" := by kernel_rfl
theorem initSigns : Tryz.prog.initOrder = String.ofList [Char.ofNat 104, Char.ofNat 97, Char.ofNat 114, Char.ofNat 110, Char.ofNat 101, Char.ofNat 115, Char.ofNat 115, Char.ofNat 32, Char.ofNat 51, Char.ofNat 49, Char.ofNat 101, Char.ofNat 98, Char.ofNat 101, Char.ofNat 100, Char.ofNat 98, Char.ofNat 98, Char.ofNat 50, Char.ofNat 57, Char.ofNat 56, Char.ofNat 101, Char.ofNat 56, Char.ofNat 98, Char.ofNat 51, Char.ofNat 51, Char.ofNat 55, Char.ofNat 50, Char.ofNat 101, Char.ofNat 53, Char.ofNat 49, Char.ofNat 99, Char.ofNat 57, Char.ofNat 53, Char.ofNat 57, Char.ofNat 101, Char.ofNat 98, Char.ofNat 56, Char.ofNat 50, Char.ofNat 100, Char.ofNat 55, Char.ofNat 55, Char.ofNat 57, Char.ofNat 99, Char.ofNat 54, Char.ofNat 52, Char.ofNat 48, Char.ofNat 102, Char.ofNat 100, Char.ofNat 50, Char.ofNat 49, Char.ofNat 100, Char.ofNat 101, Char.ofNat 101, Char.ofNat 56, Char.ofNat 54, Char.ofNat 102, Char.ofNat 53, Char.ofNat 50, Char.ofNat 55, Char.ofNat 53, Char.ofNat 102, Char.ofNat 52, Char.ofNat 101, Char.ofNat 101, Char.ofNat 98, Char.ofNat 50, Char.ofNat 53, Char.ofNat 100, Char.ofNat 101, Char.ofNat 97, Char.ofNat 98, Char.ofNat 48, Char.ofNat 97, Char.ofNat 32, Char.ofNat 99, Char.ofNat 117, Char.ofNat 116, Char.ofNat 32, Char.ofNat 97, Char.ofNat 116, Char.ofNat 32, Char.ofNat 108, Char.ofNat 111, Char.ofNat 111, Char.ofNat 112, Char.ofNat 46, Char.ofNat 101, Char.ofNat 120, Char.ofNat 97, Char.ofNat 109, Char.ofNat 112, Char.ofNat 108, Char.ofNat 101, Char.ofNat 47, Char.ofNat 99, Char.ofNat 97, Char.ofNat 112, Char.ofNat 116, Char.ofNat 117, Char.ofNat 114, Char.ofNat 101, Char.ofNat 109, Char.ofNat 111, Char.ofNat 110, Char.ofNat 105, Char.ofNat 116, Char.ofNat 111, Char.ofNat 114, Char.ofNat 47, Char.ofNat 108, Char.ofNat 97, Char.ofNat 119, Char.ofNat 115, Char.ofNat 46, Char.ofNat 70, Char.ofNat 110, Char.ofNat 77, Char.ofNat 111, Char.ofNat 110, Char.ofNat 105, Char.ofNat 116, Char.ofNat 111, Char.ofNat 114, Char.ofNat 78, Char.ofNat 111, Char.ofNat 105, Char.ofNat 115, Char.ofNat 101, Char.ofNat 32, Char.ofNat 108, Char.ofNat 111, Char.ofNat 111, Char.ofNat 112, Char.ofNat 46, Char.ofNat 101, Char.ofNat 120, Char.ofNat 97, Char.ofNat 109, Char.ofNat 112, Char.ofNat 108, Char.ofNat 101, Char.ofNat 47, Char.ofNat 99, Char.ofNat 97, Char.ofNat 112, Char.ofNat 116, Char.ofNat 117, Char.ofNat 114, Char.ofNat 101, Char.ofNat 109, Char.ofNat 111, Char.ofNat 110, Char.ofNat 105, Char.ofNat 116, Char.ofNat 111, Char.ofNat 114, Char.ofNat 47, Char.ofNat 108, Char.ofNat 97, Char.ofNat 119, Char.ofNat 115, Char.ofNat 46, Char.ofNat 70, Char.ofNat 110, Char.ofNat 77, Char.ofNat 111, Char.ofNat 110, Char.ofNat 105, Char.ofNat 116, Char.ofNat 111, Char.ofNat 114, Char.ofNat 80, Char.ofNat 97, Char.ofNat 114, Char.ofNat 116, Char.ofNat 32, Char.ofNat 108, Char.ofNat 111, Char.ofNat 111, Char.ofNat 112, Char.ofNat 46, Char.ofNat 101, Char.ofNat 120, Char.ofNat 97, Char.ofNat 109, Char.ofNat 112, Char.ofNat 108, Char.ofNat 101, Char.ofNat 47, Char.ofNat 99, Char.ofNat 97, Char.ofNat 112, Char.ofNat 116, Char.ofNat 117, Char.ofNat 114, Char.ofNat 101, Char.ofNat 109, Char.ofNat 111, Char.ofNat 110, Char.ofNat 105, Char.ofNat 116, Char.ofNat 111, Char.ofNat 114, Char.ofNat 47, Char.ofNat 108, Char.ofNat 97, Char.ofNat 119, Char.ofNat 115, Char.ofNat 46, Char.ofNat 70, Char.ofNat 110, Char.ofNat 77, Char.ofNat 111, Char.ofNat 110, Char.ofNat 105, Char.ofNat 116, Char.ofNat 111, Char.ofNat 114, Char.ofNat 82, Char.ofNat 117, Char.ofNat 110, Char.ofNat 32, Char.ofNat 108, Char.ofNat 111, Char.ofNat 111, Char.ofNat 112, Char.ofNat 46, Char.ofNat 101, Char.ofNat 120, Char.ofNat 97, Char.ofNat 109, Char.ofNat 112, Char.ofNat 108, Char.ofNat 101, Char.ofNat 47, Char.ofNat 99, Char.ofNat 97, Char.ofNat 112, Char.ofNat 116, Char.ofNat 117, Char.ofNat 114, Char.ofNat 101, Char.ofNat 109, Char.ofNat 111, Char.ofNat 110, Char.ofNat 105, Char.ofNat 116, Char.ofNat 111, Char.ofNat 114, Char.ofNat 47, Char.ofNat 108, Char.ofNat 97, Char.ofNat 119, Char.ofNat 115, Char.ofNat 46, Char.ofNat 70, Char.ofNat 110, Char.ofNat 77, Char.ofNat 111, Char.ofNat 110, Char.ofNat 105, Char.ofNat 116, Char.ofNat 111, Char.ofNat 114, Char.ofNat 84, Char.ofNat 105, Char.ofNat 109, Char.ofNat 101, Char.ofNat 115, Char.ofNat 32, Char.ofNat 108, Char.ofNat 111, Char.ofNat 111, Char.ofNat 112, Char.ofNat 46, Char.ofNat 101, Char.ofNat 120, Char.ofNat 97, Char.ofNat 109, Char.ofNat 112, Char.ofNat 108, Char.ofNat 101, Char.ofNat 47, Char.ofNat 99, Char.ofNat 97, Char.ofNat 112, Char.ofNat 116, Char.ofNat 117, Char.ofNat 114, Char.ofNat 101, Char.ofNat 109, Char.ofNat 111, Char.ofNat 110, Char.ofNat 105, Char.ofNat 116, Char.ofNat 111, Char.ofNat 114, Char.ofNat 47, Char.ofNat 108, Char.ofNat 97, Char.ofNat 119, Char.ofNat 115, Char.ofNat 46, Char.ofNat 70, Char.ofNat 110, Char.ofNat 77, Char.ofNat 111, Char.ofNat 110, Char.ofNat 105, Char.ofNat 116, Char.ofNat 111, Char.ofNat 114, Char.ofNat 66, Char.ofNat 97, Char.ofNat 100, Char.ofNat 32, Char.ofNat 108, Char.ofNat 111, Char.ofNat 111, Char.ofNat 112, Char.ofNat 46, Char.ofNat 101, Char.ofNat 120, Char.ofNat 97, Char.ofNat 109, Char.ofNat 112, Char.ofNat 108, Char.ofNat 101, Char.ofNat 47, Char.ofNat 99, Char.ofNat 97, Char.ofNat 112, Char.ofNat 116, Char.ofNat 117, Char.ofNat 114, Char.ofNat 101, Char.ofNat 109, Char.ofNat 111, Char.ofNat 110, Char.ofNat 105, Char.ofNat 116, Char.ofNat 111, Char.ofNat 114, Char.ofNat 47, Char.ofNat 108, Char.ofNat 97, Char.ofNat 119, Char.ofNat 115, Char.ofNat 46, Char.ofNat 70, Char.ofNat 110, Char.ofNat 77, Char.ofNat 111, Char.ofNat 110, Char.ofNat 105, Char.ofNat 116, Char.ofNat 111, Char.ofNat 114, Char.ofNat 66, Char.ofNat 101, Char.ofNat 103, Char.ofNat 105, Char.ofNat 110, Char.ofNat 32, Char.ofNat 108, Char.ofNat 111, Char.ofNat 111, Char.ofNat 112, Char.ofNat 46, Char.ofNat 101, Char.ofNat 120, Char.ofNat 97, Char.ofNat 109, Char.ofNat 112, Char.ofNat 108, Char.ofNat 101, Char.ofNat 47, Char.ofNat 99, Char.ofNat 97, Char.ofNat 112, Char.ofNat 116, Char.ofNat 117, Char.ofNat 114, Char.ofNat 101, Char.ofNat 109, Char.ofNat 111, Char.ofNat 110, Char.ofNat 105, Char.ofNat 116, Char.ofNat 111, Char.ofNat 114, Char.ofNat 47, Char.ofNat 108, Char.ofNat 97, Char.ofNat 119, Char.ofNat 115, Char.ofNat 46, Char.ofNat 70, Char.ofNat 110, Char.ofNat 77, Char.ofNat 111, Char.ofNat 110, Char.ofNat 105, Char.ofNat 116, Char.ofNat 111, Char.ofNat 114, Char.ofNat 66, Char.ofNat 114, Char.ofNat 111, Char.ofNat 107, Char.ofNat 101, Char.ofNat 110, Char.ofNat 32, Char.ofNat 108, Char.ofNat 111, Char.ofNat 111, Char.ofNat 112, Char.ofNat 46, Char.ofNat 101, Char.ofNat 120, Char.ofNat 97, Char.ofNat 109, Char.ofNat 112, Char.ofNat 108, Char.ofNat 101, Char.ofNat 47, Char.ofNat 99, Char.ofNat 97, Char.ofNat 112, Char.ofNat 116, Char.ofNat 117, Char.ofNat 114, Char.ofNat 101, Char.ofNat 109, Char.ofNat 111, Char.ofNat 110, Char.ofNat 105, Char.ofNat 116, Char.ofNat 111, Char.ofNat 114, Char.ofNat 47, Char.ofNat 108, Char.ofNat 97, Char.ofNat 119, Char.ofNat 115, Char.ofNat 46, Char.ofNat 70, Char.ofNat 110, Char.ofNat 77, Char.ofNat 111, Char.ofNat 110, Char.ofNat 105, Char.ofNat 116, Char.ofNat 111, Char.ofNat 114, Char.ofNat 70, Char.ofNat 111, Char.ofNat 117, Char.ofNat 110, Char.ofNat 100, Char.ofNat 32, Char.ofNat 108, Char.ofNat 111, Char.ofNat 111, Char.ofNat 112, Char.ofNat 46, Char.ofNat 101, Char.ofNat 120, Char.ofNat 97, Char.ofNat 109, Char.ofNat 112, Char.ofNat 108, Char.ofNat 101, Char.ofNat 47, Char.ofNat 99, Char.ofNat 97, Char.ofNat 112, Char.ofNat 116, Char.ofNat 117, Char.ofNat 114, Char.ofNat 101, Char.ofNat 109, Char.ofNat 111, Char.ofNat 110, Char.ofNat 105, Char.ofNat 116, Char.ofNat 111, Char.ofNat 114, Char.ofNat 47, Char.ofNat 108, Char.ofNat 97, Char.ofNat 119, Char.ofNat 115, Char.ofNat 46, Char.ofNat 70, Char.ofNat 110, Char.ofNat 77, Char.ofNat 111, Char.ofNat 110, Char.ofNat 105, Char.ofNat 116, Char.ofNat 111, Char.ofNat 114, Char.ofNat 83, Char.ofNat 116, Char.ofNat 101, Char.ofNat 112, Char.ofNat 32, Char.ofNat 108, Char.ofNat 111, Char.ofNat 111, Char.ofNat 112, Char.ofNat 46, Char.ofNat 101, Char.ofNat 120, Char.ofNat 97, Char.ofNat 109, Char.ofNat 112, Char.ofNat 108, Char.ofNat 101, Char.ofNat 47, Char.ofNat 99, Char.ofNat 97, Char.ofNat 112, Char.ofNat 116, Char.ofNat 117, Char.ofNat 114, Char.ofNat 101, Char.ofNat 109, Char.ofNat 111, Char.ofNat 110, Char.ofNat 105, Char.ofNat 116, Char.ofNat 111, Char.ofNat 114, Char.ofNat 47, Char.ofNat 108, Char.ofNat 97, Char.ofNat 119, Char.ofNat 115, Char.ofNat 46, Char.ofNat 70, Char.ofNat 110, Char.ofNat 77, Char.ofNat 111, Char.ofNat 110, Char.ofNat 105, Char.ofNat 116, Char.ofNat 111, Char.ofNat 114, Char.ofNat 75, Char.ofNat 110, Char.ofNat 111, Char.ofNat 119, Char.ofNat 110, Char.ofNat 32, Char.ofNat 108, Char.ofNat 111, Char.ofNat 111, Char.ofNat 112, Char.ofNat 46, Char.ofNat 101, Char.ofNat 120, Char.ofNat 97, Char.ofNat 109, Char.ofNat 112, Char.ofNat 108, Char.ofNat 101, Char.ofNat 47, Char.ofNat 99, Char.ofNat 97, Char.ofNat 112, Char.ofNat 116, Char.ofNat 117, Char.ofNat 114, Char.ofNat 101, Char.ofNat 109, Char.ofNat 111, Char.ofNat 110, Char.ofNat 105, Char.ofNat 116, Char.ofNat 111, Char.ofNat 114, Char.ofNat 47, Char.ofNat 108, Char.ofNat 97, Char.ofNat 119, Char.ofNat 115, Char.ofNat 46, Char.ofNat 70, Char.ofNat 110, Char.ofNat 77, Char.ofNat 111, Char.ofNat 110, Char.ofNat 105, Char.ofNat 116, Char.ofNat 111, Char.ofNat 114, Char.ofNat 79, Char.ofNat 116, Char.ofNat 104, Char.ofNat 101, Char.ofNat 114, Char.ofNat 115, Char.ofNat 32, Char.ofNat 108, Char.ofNat 111, Char.ofNat 111, Char.ofNat 112, Char.ofNat 46, Char.ofNat 101, Char.ofNat 120, Char.ofNat 97, Char.ofNat 109, Char.ofNat 112, Char.ofNat 108, Char.ofNat 101, Char.ofNat 47, Char.ofNat 99, Char.ofNat 97, Char.ofNat 112, Char.ofNat 116, Char.ofNat 117, Char.ofNat 114, Char.ofNat 101, Char.ofNat 109, Char.ofNat 111, Char.ofNat 110, Char.ofNat 105, Char.ofNat 116, Char.ofNat 111, Char.ofNat 114, Char.ofNat 47, Char.ofNat 108, Char.ofNat 97, Char.ofNat 119, Char.ofNat 115, Char.ofNat 46, Char.ofNat 70, Char.ofNat 110, Char.ofNat 77, Char.ofNat 111, Char.ofNat 110, Char.ofNat 105, Char.ofNat 116, Char.ofNat 111, Char.ofNat 114, Char.ofNat 83, Char.ofNat 116, Char.ofNat 114, Char.ofNat 97, Char.ofNat 121] := initText.trans (by kernel_rfl)
theorem begins : behindMainWord (wordsSigns Tryz.prog.initOrder.toList) = [Char.ofNat 99, Char.ofNat 117, Char.ofNat 116] :: (behindMainWord (wordsSigns Tryz.prog.initOrder.toList)).tail := by
  rw [initSigns, String.toList_ofList]
  kernel_rfl
theorem make_of {P : Program} {r : List (List Char)} (h : behindMainWord (wordsSigns P.initOrder.toList) = [Char.ofNat 99, Char.ofNat 117, Char.ofNat 116] :: r) : P.make = some .cut := by
  unfold Program.make
  rw [h]
  rfl
theorem final_of {P : Program} {r : List (List Char)} (h : behindMainWord (wordsSigns P.initOrder.toList) = [Char.ofNat 99, Char.ofNat 117, Char.ofNat 116] :: r) : P.liftsFinal = false := by
  unfold Program.liftsFinal Program.headLifts
  rw [h]
  rfl
theorem enter_of {P : Program} {r : List (List Char)} (h : behindMainWord (wordsSigns P.initOrder.toList) = [Char.ofNat 99, Char.ofNat 117, Char.ofNat 116] :: r) (h1 : P.laysLater = false) (h2 : P.bearsReflect = false) (h3 : P.doorRows = []) : P.mayEnter = true := by
  have hs : stripLifts liftWords ([Char.ofNat 99, Char.ofNat 117, Char.ofNat 116] :: r) = ([], [Char.ofNat 99, Char.ofNat 117, Char.ofNat 116] :: r) := rfl
  have hd : P.doorFits [] = true := by
    unfold Program.doorFits
    rw [h3]
    rfl
  unfold Program.mayEnter
  rw [h]
  simp only [hs, h1, h2, hd]
  rfl
theorem enters : Tryz.prog.mayEnter = true := enter_of begins (by kernel_rfl) (by kernel_rfl) (by kernel_rfl)
theorem finals : Tryz.prog.liftsFinal = false := final_of begins
theorem makes : Tryz.prog.make = some .cut := make_of begins
end

end Go.Proofs.YtpcfbgeabehmbaaGreat
