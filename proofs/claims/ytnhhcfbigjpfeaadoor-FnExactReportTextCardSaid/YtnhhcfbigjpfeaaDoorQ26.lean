/-
  Sides, associations and monitors of any numbers, and of up to two million elements: what the checks answer.
-/
import Derived.Test.YtnhhcfbigjpfeaaDoorQ19
import Derived.Test.YtnhhcfbigjpfeaaDoorQ25
namespace Go.Proofs.YtnhhcfbigjpfeaaDoor
set_option linter.all false

section
set_option maxRecDepth 200000
set_option maxHeartbeats 8000000
attribute [-simp] List.getD_eq_getElem?_getD

def Side.fat (s : Side) : Prop := s.sent.length ≤ 2000000
def Assoc.fat (x : Assoc) : Prop := x.a.fat ∧ x.b.fat
structure Monitor.fat (m : Monitor) : Prop where
  len : m.list.length ≤ 2000000
  each : ∀ x ∈ m.list, x.fat
  found : m.found.length ≤ 2000000

theorem spec_SideValid_in (s : Side) (hb3 : s.fat) (hs : inS s.first = true) : Fn Tryd.prog fn_spec_SideValid [s.v] [] (.bool s.ok) [] := by
  refine Fn.of_go ln_spec_SideValid rfl ?_
  unfold Side.fat at hb3
  have hb1 : -1000 ≤ s.first := by simp [inS] at hs; omega
  have hb2 : s.first ≤ 1000000000 := by simp [inS] at hs; omega
  simp [ac_spec_SideValid, Side.v, Side.cells, psl]
  refine goTest_dec (fun h0 => ?_) (fun h0 => ?_)
  · have e : s.ok = (decide (s.streams = 0) && decide (s.first = 0) && decide (s.sent.length = 0) && decide (s.acked = 0)) := by unfold Side.ok; rw [if_pos h0]
    rw [e]
    simp [h0]
    repeat' (first
      | (refine goTest_dec (fun h => ?_) (fun h => ?_) <;> simp [h])
      | (refine Ends.mk [] [] ?_; simp [*] <;> fail))
  · rw [sideTag s h0]
    simp [h0]
    refine go_loop (fun i => { env := [(1, .ptr 1 0), (3, .int .i64 (i : Nat))], loc := [], box := [(1, s.cells)], stat := [] }) (fun i => i ≤ s.sent.length ∧ allTo (partAt s) i = true) (fun i => s.sent.length - i) 0 ⟨by omega, rfl⟩ (Weak.of [] [(1, 1)] (by simp [Side.cells, psl])) ?_
    rintro i ⟨hi, hp⟩
    simp [Side.cells, psl]
    refine goTest_dec (fun hlt => ?_) (fun hge => ?_)
    · have f1 := l12Data_ok (nth s.sent i)
      have f2 := l3Add_ok s.first i (by omega) (by omega) (by omega)
      have f3 := l31Follows_ok (s.sent.take i) (nth s.sent i) (by simp; omega)
      have hbad : partAt s i = false → allTo (partAt s) s.sent.length = false := allTo_false hlt
      have hgood : partAt s i = true → allTo (partAt s) (i + 1) = true := allTo_succ hp
      simp only [partAt] at hbad hgood
      simp [hlt, Part.v, Part.cells]
      generalize hx : nth s.sent i = x at *
      simp only [Part.v, Part.cells, psl, List.map_take] at f1 f3
      repeat' (first
        | (refine goTest_dec (fun h => ?_) (fun h => ?_) <;> simp [h])
        | (refine goTest_bool (fun h => ?_) (fun h => ?_) <;> simp [h])
        | (refine goDCall_eq f1 (by simp) (by simp) ?_; simp)
        | (refine goDCall_eq f2 (by simp) (by simp) ?_; simp)
        | (refine goDCall_eq f3 (by simp) (by simp) ?_; simp)
        | (refine goCall_eq f3 (by simp) ?_; simp)
        | (have f4 := f3; rw [‹x.tsn = addS s.first (i : Int)›] at f4; refine goCall_eq f4 (by simp) ?_; simp)
        | (refine And.intro (by omega) ?_)
        | (refine Again.mk (i + 1) ⟨hlt, hgood (by simp [*] <;> omega)⟩ (by omega) (Weak.of [] [(1, 1)] ?_); simp [Side.cells, psl] <;> fail)
        | (refine Ends.mk [] [] ?_; simp [hbad (by simp [*] <;> omega)] <;> fail))
    · obtain rfl : i = s.sent.length := by omega
      simp
      repeat' (first
        | (refine goTest_dec (fun h => ?_) (fun h => ?_) <;> simp [h])
        | (refine goTest_bool (fun h => ?_) (fun h => ?_) <;> simp [h])
        | (refine goCall_eq (l6In_ok _ _ _) (by simp) ?_; simp)
        | (refine goCall_eq (l3Ok_ok _) (by simp) ?_; simp)
        | (refine goDCall_eq (l6In_ok _ _ _) (by simp) (by simp) ?_; simp)
        | (refine goDCall_eq (l3Ok_ok _) (by simp) (by simp) ?_; simp)
        | (refine Ends.mk [] [] ?_; simp [*] <;> fail))

theorem spec_SideValid_out (s : Side) (hb3 : s.fat) (hs : inS s.first = false) : Fn Tryd.prog fn_spec_SideValid [s.v] [] (.bool false) [] := by
  refine Fn.of_go ln_spec_SideValid rfl ?_
  unfold Side.fat at hb3
  have hz : ¬ s.first = 0 := fun e => by rw [e] at hs; simp [inS] at hs
  simp [ac_spec_SideValid, Side.v, Side.cells, psl]
  refine goTest_dec (fun h0 => ?_) (fun h0 => ?_)
  · simp [h0]
    repeat' (first
      | (refine goTest_dec (fun h => ?_) (fun h => ?_) <;> simp [h])
      | (exact absurd ‹s.first = 0› hz)
      | (refine Ends.mk [] [] ?_; simp [*] <;> fail))
  · simp [h0]
    refine go_loop (fun i => { env := [(1, .ptr 1 0), (3, .int .i64 (i : Nat))], loc := [], box := [(1, s.cells)], stat := [] }) (fun i => i ≤ s.sent.length) (fun i => s.sent.length - i) 0 (by omega) (Weak.of [] [(1, 1)] (by simp [Side.cells, psl])) ?_
    intro i hi
    simp [Side.cells, psl]
    refine goTest_dec (fun hlt => ?_) (fun hge => ?_)
    · have f1 := l12Data_ok (nth s.sent i)
      obtain ⟨r, f2⟩ := l3Add_any s.first i
      have f3 := l31Follows_ok (s.sent.take i) (nth s.sent i) (by simp; omega)
      simp [hlt, Part.v, Part.cells]
      generalize hx : nth s.sent i = x at *
      simp only [Part.v, Part.cells, psl, List.map_take] at f1 f3
      repeat' (first
        | (refine goTest_dec (fun h => ?_) (fun h => ?_) <;> simp [h])
        | (refine goTest_bool (fun h => ?_) (fun h => ?_) <;> simp [h])
        | (refine goDCall_eq f1 (by simp) (by simp) ?_; simp)
        | (refine goDCall_eq f2 (by simp) (by simp) ?_; simp)
        | (refine goDCall_eq f3 (by simp) (by simp) ?_; simp)
        | (refine goCall_eq f3 (by simp) ?_; simp)
        | (have f4 := f3; rw [‹x.tsn = r›] at f4; refine goCall_eq f4 (by simp) ?_; simp)
        | (refine And.intro (by omega) ?_)
        | (refine Again.mk (i + 1) hlt (by omega) (Weak.of [] [(1, 1)] ?_); simp [Side.cells, psl] <;> fail)
        | (refine Ends.mk [] [] ?_; simp <;> fail))
    · obtain rfl : i = s.sent.length := by omega
      simp
      repeat' (first
        | (refine goTest_dec (fun h => ?_) (fun h => ?_) <;> simp [h])
        | (refine goTest_bool (fun h => ?_) (fun h => ?_) <;> simp [h])
        | (exact absurd ‹inS s.first = true› (by rw [hs]; simp))
        | (refine goCall_eq (l6In_ok _ _ _) (by simp) ?_; simp)
        | (refine goCall_eq (l3Ok_ok _) (by simp) ?_; simp)
        | (refine goDCall_eq (l6In_ok _ _ _) (by simp) (by simp) ?_; simp)
        | (refine goDCall_eq (l3Ok_ok _) (by simp) (by simp) ?_; simp)
        | (refine Ends.mk [] [] ?_; simp [*] <;> fail))

theorem side_out {s : Side} (hs : inS s.first = false) : s.ok = false := by
  by_cases h0 : s.tag = 0
  · have hz : ¬ s.first = 0 := fun e => by rw [e] at hs; simp [inS] at hs
    unfold Side.ok
    rw [if_pos h0]
    simp [hz]
  · rw [sideTag s h0, hs]
    simp

theorem spec_SideValid_fat (s : Side) (hb : s.fat) : Fn Tryd.prog fn_spec_SideValid [s.v] [] (.bool s.ok) [] := by
  cases hs : inS s.first
  · rw [side_out hs]
    exact spec_SideValid_out s hb hs
  · exact spec_SideValid_in s hb hs

theorem impl_SideValid_fat (s : Side) (hb3 : s.fat) : Fn Tryd.prog fn_impl_SideValid [s.v] [] (.bool s.ok) [] := by
  refine Fn.of_go ln_impl_SideValid rfl ?_
  unfold Side.fat at hb3
  simp [ac_impl_SideValid, Side.v, Side.cells, psl]
  refine goTest_dec (fun h0 => ?_) (fun h0 => ?_)
  · have e : s.ok = (decide (s.streams = 0) && decide (s.first = 0) && decide (s.sent.length = 0) && decide (s.acked = 0)) := by unfold Side.ok; rw [if_pos h0]
    rw [e]
    simp [h0]
    repeat' (first
      | (refine goTest_dec (fun h => ?_) (fun h => ?_) <;> simp [h])
      | (refine Ends.mk [] [] ?_; simp [*] <;> fail))
  · rw [sideTag s h0]
    simp [h0]
    have hh : ∀ b, (b = allTo (partAt s) s.sent.length) → (b && inB s.tag 1 4294967295 && inB s.streams 1 4 && inS s.first && decide (s.sent.length ≤ 12) && inB s.acked 0 s.sent.length) = (b && decide ((1 ≤ s.tag ∧ s.tag ≤ 4294967295) ∧ (1 ≤ s.streams ∧ s.streams ≤ 4) ∧ inS s.first = true ∧ s.sent.length ≤ 12 ∧ 0 ≤ s.acked ∧ s.acked ≤ s.sent.length)) := fun b _ => by
      cases b <;> simp [inB, Bool.and_assoc]
    rw [hh _ rfl]
    repeat' (first
      | (refine goTest_dec (fun h => ?_) (fun h => ?_) <;> simp [h])
      | (refine goTest_bool (fun h => ?_) (fun h => ?_) <;> simp [h])
      | (refine goCall_eq (serialOk_ok _) (by simp) ?_; simp)
      | (refine Ends.mk [] [] ?_; simp [*] <;> fail)
      | (refine Ends.mk [] [] ?_; simp [*] <;> omega)
      | (refine go_loop (fun i => { env := [(1, .ptr 1 0), (71, psl s.sent), (72, .int .i64 (s.sent.length : Nat)), (73, .int .i64 (i : Nat))], loc := [], box := [(1, s.cells)], stat := [] }) (fun i => i ≤ s.sent.length ∧ allTo (partAt s) i = true) (fun i => s.sent.length - i) 0 ⟨by omega, rfl⟩ (Weak.of [] [(1, 1)] (by simp [Side.cells, psl])) ?_))
    rename_i g1 g2 g3 g4 g5 g6 g7
    rintro i ⟨hi, hp⟩
    simp [Side.cells, psl]
    refine goTest_dec (fun hlt => ?_) (fun hge => ?_)
    · have f1 := dataOk_ok (nth s.sent i)
      have f2 := impl_SerialAdd_ok s.first i (by omega)
      rw [if_pos g5] at f2
      have f3 := mayFollow_ok (s.sent.take i) (nth s.sent i) (by simp; omega)
      have hbad : partAt s i = false → allTo (partAt s) s.sent.length = false := allTo_false hlt
      have hgood : partAt s i = true → allTo (partAt s) (i + 1) = true := allTo_succ hp
      simp only [partAt] at hbad hgood
      simp [hlt, Part.v, Part.cells]
      generalize hx : nth s.sent i = x at *
      simp only [Part.v, Part.cells, psl, List.map_take] at f1 f3
      repeat' (first
        | (refine goTest_dec (fun h => ?_) (fun h => ?_) <;> simp [h])
        | (refine goTest_bool (fun h => ?_) (fun h => ?_) <;> simp [h])
        | (refine goDCall_eq f1 (by simp) (by simp) ?_; simp)
        | (refine goDCall_eq f2 (by simp) (by simp) ?_; simp)
        | (refine goDCall_eq f3 (by simp) (by simp) ?_; simp)
        | (refine goCall_eq f3 (by simp) ?_; simp)
        | (have f4 := f3; rw [‹x.tsn = addS s.first (i : Int)›] at f4; refine goCall_eq f4 (by simp) ?_; simp)
        | (refine And.intro (by omega) ?_)
        | (refine Again.mk (i + 1) ⟨hlt, hgood (by simp [*] <;> omega)⟩ (by omega) (Weak.of [] [(1, 1)] ?_); simp [Side.cells, psl] <;> fail)
        | (refine Ends.mk [] [] ?_; simp [hbad (by simp [*] <;> omega)] <;> fail))
    · obtain rfl : i = s.sent.length := by omega
      simp
      exact Ends.mk [] [] (by simp [hp]; omega)

theorem spec_AssocValid_fat (x : Assoc) (hb : x.fat) : Fn Tryd.prog fn_spec_AssocValid [x.v] [] (.bool x.ok) [] := by
  refine Fn.of_go ln_spec_AssocValid rfl ?_
  have f1 := spec_SideValid_fat x.a hb.1
  have f2 := spec_SideValid_fat x.b hb.2
  have l1 : x.a.sent.length ≤ 2000000 := hb.1
  have l2 : x.b.sent.length ≤ 2000000 := hb.2
  simp only [Side.v, Side.cells, psl] at f1 f2
  have key := assoc_iff x
  rcases bne_cases (0 < x.a.tag) (1 ≤ x.state) with ⟨hA, eA⟩ | ⟨hA, eA⟩ <;> rcases bne_cases (0 < x.b.tag) (2 ≤ x.state) with ⟨hB, eB⟩ | ⟨hB, eB⟩
  all_goals simp [ac_spec_AssocValid, Assoc.v, Assoc.cells, Side.cells, psl, eA, eB]
  repeat' (first
    | (refine goTest_dec (fun h => ?_) (fun h => ?_) <;> simp [h, eA, eB])
    | (refine goTest_bool (fun h => ?_) (fun h => ?_) <;> simp [h, eA, eB])
    | (refine goCall_eq (l6In_ok _ _ _) (by simp) ?_; simp [inB_dec, -Bool.decide_and, eA, eB])
    | (refine goCall_eq (l31Open_ok _) (by simp) ?_; simp [inB_dec, -Bool.decide_and, eA, eB])
    | (refine goCall_eq f1 (by simp) ?_; simp [eA, eB])
    | (refine goCall_eq f2 (by simp) ?_; simp [eA, eB])
    | (refine goDCall_eq f1 (by simp) (by simp) ?_; simp [eA, eB])
    | (refine goDCall_eq f2 (by simp) (by simp) ?_; simp [eA, eB])
    | (refine And.intro (by omega) ?_)
    | (refine Ends.mk [] [] ?_; clear f1 f2 eA eB; simp; refine Bool.eq_false_iff.2 (fun q => ?_); obtain ⟨q1, q2, q3, q4, q5, q6, q7, q8, q9, q10⟩ := key.1 q; first | omega | (simp_all <;> omega))
    | (refine Ends.mk [] [] ?_; clear f1 f2 eA eB; have e : x.ok = decide (5 ≤ x.state) := (by rw [Bool.eq_iff_iff, key, decide_eq_true_iff]; exact ⟨fun q => q.2.2.2.2.2.2.2.2.2 ‹x.byB = true›, fun q => ⟨by omega, by omega, by omega, by omega, by assumption, by assumption, by omega, by omega, by omega, fun _ => q⟩⟩); simp [e] <;> omega)
    | (refine Ends.mk [] [] ?_; clear f1 f2 eA eB; simp; refine key.2 ⟨by omega, by omega, by omega, by omega, by assumption, by assumption, by omega, by omega, by omega, fun q => ?_⟩; simp_all <;> omega))

theorem impl_AssocValid_fat (x : Assoc) (hb : x.fat) : Fn Tryd.prog fn_impl_AssocValid [x.v] [] (.bool x.ok) [] := by
  refine Fn.of_go ln_impl_AssocValid rfl ?_
  have f1 := impl_SideValid_fat x.a hb.1
  have f2 := impl_SideValid_fat x.b hb.2
  have l1 : x.a.sent.length ≤ 2000000 := hb.1
  have l2 : x.b.sent.length ≤ 2000000 := hb.2
  simp only [Side.v, Side.cells, psl] at f1 f2
  have key := assoc_iff x
  rcases bne_cases (0 < x.a.tag) (1 ≤ x.state) with ⟨hA, eA⟩ | ⟨hA, eA⟩ <;> rcases bne_cases (0 < x.b.tag) (2 ≤ x.state) with ⟨hB, eB⟩ | ⟨hB, eB⟩
  all_goals simp [ac_impl_AssocValid, Assoc.v, Assoc.cells, Side.cells, psl, eA, eB]
  repeat' (first
    | (refine goTest_dec (fun h => ?_) (fun h => ?_) <;> simp [h, eA, eB])
    | (refine goTest_bool (fun h => ?_) (fun h => ?_) <;> simp [h, eA, eB])
    | (refine goCall_eq f1 (by simp) ?_; simp [eA, eB])
    | (refine goCall_eq f2 (by simp) ?_; simp [eA, eB])
    | (refine goDCall_eq f1 (by simp) (by simp) ?_; simp [eA, eB])
    | (refine goDCall_eq f2 (by simp) (by simp) ?_; simp [eA, eB])
    | (refine And.intro (by omega) ?_)
    | (refine Ends.mk [] [] ?_; clear f1 f2 eA eB; simp; refine Bool.eq_false_iff.2 (fun q => ?_); obtain ⟨q1, q2, q3, q4, q5, q6, q7, q8, q9, q10⟩ := key.1 q; first | omega | (simp_all <;> omega))
    | (refine Ends.mk [] [] ?_; clear f1 f2 eA eB; have e : x.ok = decide (5 ≤ x.state) := (by rw [Bool.eq_iff_iff, key, decide_eq_true_iff]; exact ⟨fun q => q.2.2.2.2.2.2.2.2.2 ‹x.byB = true›, fun q => ⟨by omega, by omega, by omega, by omega, by assumption, by assumption, by omega, by omega, by omega, fun _ => q⟩⟩); simp [e] <;> omega)
    | (refine Ends.mk [] [] ?_; clear f1 f2 eA eB; simp; refine key.2 ⟨by omega, by omega, by omega, by omega, by assumption, by assumption, by omega, by omega, by omega, fun q => ?_⟩; simp_all <;> omega))

theorem spec_MonitorValid_in (m : Monitor) (hm : m.fat) (hs : inB m.records 0 60 = true) : Fn Tryd.prog fn_spec_MonitorValid [m.v] [] (.bool m.ok) [] := by
  refine Fn.of_go ln_spec_MonitorValid rfl ?_
  have hl := hm.len
  have hf := hm.found
  have hr : 0 ≤ m.records ∧ m.records ≤ 60 := by simpa [inB] using hs
  simp [ac_spec_MonitorValid, mon_v]
  refine go_loop (fun i => { env := [(1, .ptr 1 0), (3, .int .i64 (i : Nat))], loc := [], box := [(1, m.cells)], stat := [] }) (fun i => i ≤ m.list.length ∧ allTo (listAt m.list) i = true) (fun i => m.list.length - i) 0 ⟨by omega, rfl⟩ (Weak.of [] [(1, 1)] (by simp [Monitor.cells, fsl])) ?_
  rintro i ⟨hi, hp⟩
  simp [Monitor.cells, fsl]
  refine goTest_dec (fun hlt => ?_) (fun hge => ?_)
  · have hbad := bad_list hlt
    have f1 := spec_AssocValid_fat (nth m.list i) (hm.each _ (nth_mem hlt))
    simp only [assoc_v] at f1
    have hla : listAt m.list i = ((nth m.list i).ok && decide ((nth m.list i).state ≠ 0) && allTo (fun k => !meet (nth m.list k).ports (nth m.list i).ports) i) := rfl
    simp [hlt, assoc_v]
    refine goCall_eq f1 (by simp) ?_
    cases q1 : (nth m.list i).ok
    · simp; exact Ends.mk [] [] (by simp [hbad (by simp [hla, q1])])
    simp [hlt, assoc_v]
    refine goTest_dec (fun q2 => ?_) (fun q2 => ?_)
    · simp [q2]; exact Ends.mk [] [] (by simp [hbad (by simp [hla, q2])])
    simp
    refine go_loop (fun k => { env := [(1, .ptr 1 0), (3, .int .i64 (i : Nat)), (4, .int .i64 (k : Nat))], loc := [], box := [(1, m.cells)], stat := [] }) (fun k => k ≤ i ∧ allTo (fun k => !meet (nth m.list k).ports (nth m.list i).ports) k = true) (fun k => i - k) 0 ⟨by omega, rfl⟩ (Weak.of [] [(1, 1)] (by simp [Monitor.cells, fsl])) ?_
    rintro k ⟨hk, hpk⟩
    simp [Monitor.cells, fsl]
    refine goTest_dec (fun hkl => ?_) (fun hkg => ?_)
    · have hkk : k < m.list.length := by omega
      have f2 := l32Pair_ok (nth m.list k) (nth m.list i)
      simp only [assoc_v] at f2
      simp [hlt, hkl, hkk, assoc_v]
      refine goCall_eq f2 (by simp) ?_
      simp
      refine goTest_bool (fun q3 => ?_) (fun q3 => ?_)
      · simp; exact Ends.mk [] [] (by simp [hbad (by rw [hla, allTo_false hkl (by simp [q3])]; simp)])
      · simp
        exact ⟨by omega, Again.mk (k + 1) ⟨hkl, allTo_succ hpk (by simp [q3])⟩ (by omega) (Weak.of [] [(1, 1)] (by simp [Monitor.cells, fsl]))⟩
    · obtain rfl : k = i := by omega
      simp
      exact ⟨by omega, Again.mk (k + 1) ⟨hlt, allTo_succ hp (by rw [hla, q1, hpk]; simp [q2])⟩ (by omega) (Weak.of [] [(1, 1)] (by simp [Monitor.cells, fsl]))⟩
  · obtain rfl : i = m.list.length := by omega
    simp
    refine go_loop (fun i => { env := [(1, .ptr 1 0), (5, .int .i64 (i : Nat))], loc := [], box := [(1, m.cells)], stat := [] }) (fun i => i ≤ m.found.length ∧ allTo (fsP m.records m.found) i = true) (fun i => m.found.length - i) 0 ⟨by omega, rfl⟩ (Weak.of [] [(1, 1)] (by simp [Monitor.cells, fsl])) ?_
    rintro i ⟨hi, hpf⟩
    simp [Monitor.cells, fsl]
    refine goTest_dec (fun hlt => ?_) (fun hge => ?_)
    · have hbad := bad_found hlt
      have hlt2 : i - 1 < m.found.length := by omega
      have hfp : fsP m.records m.found i = (fOk m.records (nth m.found i) && (i == 0 || fLess (nth m.found (i - 1)) (nth m.found i))) := rfl
      simp [hlt, fV]
      refine goDCall_eq (l32Finding_ok _ _ (by omega) (by omega)) (by simp [fV]) (by simp) ?_
      simp
      refine goTest_bool (fun h1 => ?_) (fun h1 => ?_)
      · simp [h1]
        refine goTest_dec (fun h2 => ?_) (fun h2 => ?_)
        · simp [h2, hlt, hlt2, fV]
          refine ⟨by omega, by omega, ?_⟩
          refine goCall_eq (l32Less_ok _ _) (by simp [fV]) ?_
          simp
          refine goTest_bool (fun h3 => ?_) (fun h3 => ?_)
          · simp [h3]
            exact ⟨by omega, .mk (i + 1) ⟨by omega, allTo_succ hpf (by simp [fsP, h1, h3])⟩ (by omega) (Weak.of [] [(1, 1)] (by simp [Monitor.cells, fsl]))⟩
          · simp [h3]
            exact Ends.mk [] [] (by simp [hbad (by simp [fsP, h1, h3, show i ≠ 0 by omega])])
        · simp [h2]
          exact ⟨by omega, .mk (i + 1) ⟨by omega, allTo_succ hpf (by obtain rfl : i = 0 := (by omega); simp [fsP, h1])⟩ (by omega) (Weak.of [] [(1, 1)] (by simp [Monitor.cells, fsl]))⟩
      · simp [h1]
        exact Ends.mk [] [] (by simp [hbad (by simp [fsP, h1])])
    · obtain rfl : i = m.found.length := by omega
      have hmo : m.ok = (inB m.records 0 60 && decide (m.list.length ≤ 3)) := by
        have : fsOk m.records m.found = true := hpf
        simp [Monitor.ok, hp, this]
      rw [hmo]
      simp
      refine goCall_eq (l6In_ok _ _ _) (by simp) ?_
      cases q : inB m.records 0 60
      · simp
        exact Ends.mk [] [] (by simp)
      · simp
        exact Ends.mk [] [] (by simp)

theorem impl_MonitorValid_fat (m : Monitor) (hm : m.fat) : Fn Tryd.prog fn_impl_MonitorValid [m.v] [] (.bool m.ok) [] := by
  refine Fn.of_go ln_impl_MonitorValid rfl ?_
  have hl := hm.len
  have hf := hm.found
  have hmo : m.ok = (allTo (listAt m.list) m.list.length && (fsOk m.records m.found && (inB m.records 0 60 && decide (m.list.length ≤ 3)))) := by unfold Monitor.ok; simp only [Bool.and_assoc]
  have no : ¬ (0 ≤ m.records ∧ m.records ≤ 60 ∧ m.list.length ≤ 3) → m.ok = false := by
    intro h
    rw [hmo]
    simp [inB]
    intros; omega
  simp [ac_impl_MonitorValid, mon_v]
  cases q1 : decide (m.records < 0)
  rotate_left
  · simp; exact Ends.mk [] [] (by simp [no (by have := of_decide_eq_true q1; omega)])
  simp
  cases q2 : decide (60 < m.records)
  rotate_left
  · simp; exact Ends.mk [] [] (by simp [no (by have := of_decide_eq_true q2; omega)])
  simp
  cases q3 : decide (3 < m.list.length)
  rotate_left
  · simp; exact Ends.mk [] [] (by simp [no (by have := of_decide_eq_true q3; omega)])
  simp
  have q1 := of_decide_eq_false q1
  have q2 := of_decide_eq_false q2
  have q3 := of_decide_eq_false q3
  refine go_loop (fun i : Nat => { env := [(1, .ptr 1 0), (22, .sl none 14 (m.list.map Assoc.v)), (23, .int .i64 (m.list.length : Nat)), (24, .int .i64 (i : Nat))], loc := [], box := [(1, m.cells)], stat := [] }) (fun i => i ≤ m.list.length ∧ allTo (listAt m.list) i = true) (fun i => m.list.length - i) 0 ⟨by omega, rfl⟩ (Weak.of [] [(1, 1)] (by simp [Monitor.cells, fsl])) ?_
  rintro i ⟨hi, hp⟩
  simp [Monitor.cells, fsl]
  refine goTest_dec (fun hlt => ?_) (fun hge => ?_)
  · have hbad := bad_list hlt
    have f1 := impl_AssocValid_fat (nth m.list i) (hm.each _ (nth_mem hlt))
    simp only [assoc_v] at f1
    have hla : listAt m.list i = ((nth m.list i).ok && decide ((nth m.list i).state ≠ 0) && allTo (fun k => !meet (nth m.list k).ports (nth m.list i).ports) i) := rfl
    simp [hlt, assoc_v]
    refine goCall_eq f1 (by simp) ?_
    cases q4 : (nth m.list i).ok
    · simp; exact Ends.mk [] [] (by simp [hbad (by simp [hla, q4])])
    simp
    refine goTest_dec (fun q5 => ?_) (fun q5 => ?_)
    · simp; exact Ends.mk [] [] (by simp [hbad (by simp [hla, q5])])
    simp
    obtain ⟨tk, htk⟩ : ∃ tk, tk = m.list.take i := ⟨_, rfl⟩
    have htl : tk.length = i := by rw [htk]; simp; omega
    have htn : ∀ k, k < i → nth tk k = nth m.list k := by
      intro k hk
      rw [nth_eq (by omega), nth_eq (by omega)]
      simp [htk]
    have htm : List.take i (m.list.map Assoc.v) = tk.map Assoc.v := by rw [htk, List.map_take]
    refine ⟨by omega, ?_⟩
    refine go_loop (fun k : Nat => { env := [(1, .ptr 1 0), (4, .ptr 4 0), (22, .sl none 14 (m.list.map Assoc.v)), (23, .int .i64 (m.list.length : Nat)), (24, .int .i64 (i : Nat)), (40, .sl none 14 (tk.map Assoc.v)), (41, .int .i64 (i : Nat)), (42, .int .i64 (k : Nat))], loc := [], box := [(1, m.cells), (4, (nth m.list i).cells)], stat := [] }) (fun k => k ≤ i ∧ allTo (fun k => !meet (nth m.list k).ports (nth m.list i).ports) k = true) (fun k => i - k) 0 ⟨by omega, rfl⟩ (Weak.of [] [(1, 1), (4, 4)] (by simp [Monitor.cells, fsl, Assoc.cells, Side.cells, psl, htm]; omega)) ?_
    rintro k ⟨hk, hpk⟩
    simp [Monitor.cells, fsl, Assoc.cells, Side.cells, psl]
    refine goTest_dec (fun hkl => ?_) (fun hkg => ?_)
    · have hkk : k < m.list.length := by omega
      have f2 := samePorts_ok (nth m.list k) (nth m.list i).src (nth m.list i).dst
      simp only [assoc_v] at f2
      have hpp : (nth m.list i).ports = ((nth m.list i).src, (nth m.list i).dst) := rfl
      simp [htl, hkl, htn k hkl, assoc_v]
      refine goCall_eq f2 (by simp) ?_
      simp
      refine goTest_bool (fun q6 => ?_) (fun q6 => ?_)
      · simp; exact Ends.mk [] [] (by simp [hbad (by rw [hla, allTo_false hkl (by simp [hpp, q6])]; simp)])
      · simp
        exact ⟨by omega, Again.mk (k + 1) ⟨hkl, allTo_succ hpk (by simp [hpp, q6])⟩ (by omega) (Weak.of [] [(1, 1), (4, 4)] (by simp [Monitor.cells, fsl, Assoc.cells, Side.cells, psl]))⟩
    · obtain rfl : k = i := by omega
      simp
      exact ⟨by omega, Again.mk (k + 1) ⟨hlt, allTo_succ hp (by rw [hla, q4, hpk]; simp [q5])⟩ (by omega) (Weak.of [] [(1, 1)] (by simp [Monitor.cells, fsl]))⟩
  · obtain rfl : i = m.list.length := by omega
    have f3 := foundOk_ok m.found m.records (by omega)
    simp only [fsl] at f3
    have e : m.ok = fsOk m.records m.found := by rw [hmo, hp]; simp [inB]; intros; omega
    rw [e]
    simp
    refine goCall_eq f3 (by simp) ?_
    simp
    exact Ends.mk [] [] (by simp)

theorem spec_MonitorValid_out (m : Monitor) (hm : m.fat) (hs : inB m.records 0 60 = false) : Fn Tryd.prog fn_spec_MonitorValid [m.v] [] (.bool false) [] := by
  refine Fn.of_go ln_spec_MonitorValid rfl ?_
  have hl := hm.len
  have hf := hm.found
  simp [ac_spec_MonitorValid, mon_v]
  refine go_loop (fun i => { env := [(1, .ptr 1 0), (3, .int .i64 (i : Nat))], loc := [], box := [(1, m.cells)], stat := [] }) (fun i => i ≤ m.list.length) (fun i => m.list.length - i) 0 (by omega) (Weak.of [] [(1, 1)] (by simp [Monitor.cells, fsl])) ?_
  intro i hi
  simp [Monitor.cells, fsl]
  refine goTest_dec (fun hlt => ?_) (fun hge => ?_)
  · have f1 := spec_AssocValid_fat (nth m.list i) (hm.each _ (nth_mem hlt))
    simp only [assoc_v] at f1
    simp [hlt, assoc_v]
    refine goCall_eq f1 (by simp) ?_
    cases q1 : (nth m.list i).ok
    · simp; exact Ends.mk [] [] (by simp)
    simp [hlt, assoc_v]
    refine goTest_dec (fun q2 => ?_) (fun q2 => ?_)
    · simp [q2]; exact Ends.mk [] [] (by simp)
    simp
    refine go_loop (fun k => { env := [(1, .ptr 1 0), (3, .int .i64 (i : Nat)), (4, .int .i64 (k : Nat))], loc := [], box := [(1, m.cells)], stat := [] }) (fun k => k ≤ i) (fun k => i - k) 0 (by omega) (Weak.of [] [(1, 1)] (by simp [Monitor.cells, fsl])) ?_
    intro k hk
    simp [Monitor.cells, fsl]
    refine goTest_dec (fun hkl => ?_) (fun hkg => ?_)
    · have hkk : k < m.list.length := by omega
      have f2 := l32Pair_ok (nth m.list k) (nth m.list i)
      simp only [assoc_v] at f2
      simp [hlt, hkl, hkk, assoc_v]
      refine goCall_eq f2 (by simp) ?_
      simp
      refine goTest_bool (fun q3 => ?_) (fun q3 => ?_)
      · simp; exact Ends.mk [] [] (by simp)
      · simp
        exact ⟨by omega, Again.mk (k + 1) hkl (by omega) (Weak.of [] [(1, 1)] (by simp [Monitor.cells, fsl]))⟩
    · obtain rfl : k = i := by omega
      simp
      exact ⟨by omega, Again.mk (k + 1) hlt (by omega) (Weak.of [] [(1, 1)] (by simp [Monitor.cells, fsl]))⟩
  · obtain rfl : i = m.list.length := by omega
    simp
    refine go_loop (fun i => { env := [(1, .ptr 1 0), (5, .int .i64 (i : Nat))], loc := [], box := [(1, m.cells)], stat := [] }) (fun i => i ≤ m.found.length) (fun i => m.found.length - i) 0 (by omega) (Weak.of [] [(1, 1)] (by simp [Monitor.cells, fsl])) ?_
    intro i hi
    simp [Monitor.cells, fsl]
    refine goTest_dec (fun hlt => ?_) (fun hge => ?_)
    · have hlt2 : i - 1 < m.found.length := by omega
      obtain ⟨b1, f1⟩ := l32Finding_any (nth m.found i) m.records
      simp only [fV] at f1
      simp [hlt, fV]
      refine goDCall_eq f1 (by simp) (by simp) ?_
      simp
      refine goTest_bool (fun h1 => ?_) (fun h1 => ?_)
      · simp [h1]
        refine goTest_dec (fun h2 => ?_) (fun h2 => ?_)
        · simp [h2, hlt, hlt2, fV]
          refine ⟨by omega, by omega, ?_⟩
          refine goCall_eq (l32Less_ok _ _) (by simp [fV]) ?_
          simp
          refine goTest_bool (fun h3 => ?_) (fun h3 => ?_)
          · simp [h3]
            exact ⟨by omega, .mk (i + 1) (by omega) (by omega) (Weak.of [] [(1, 1)] (by simp [Monitor.cells, fsl]))⟩
          · simp [h3]
            exact Ends.mk [] [] (by simp)
        · simp [h2]
          exact ⟨by omega, .mk (i + 1) (by omega) (by omega) (Weak.of [] [(1, 1)] (by simp [Monitor.cells, fsl]))⟩
      · simp [h1]
        exact Ends.mk [] [] (by simp)
    · obtain rfl : i = m.found.length := by omega
      simp
      refine goCall_eq (l6In_ok _ _ _) (by simp) ?_
      rw [hs]
      simp
      exact Ends.mk [] [] (by simp)

theorem spec_MonitorValid_fat (m : Monitor) (hm : m.fat) : Fn Tryd.prog fn_spec_MonitorValid [m.v] [] (.bool m.ok) [] := by
  cases hs : inB m.records 0 60
  · have e : m.ok = false := by simp [Monitor.ok, hs]
    rw [e]
    exact spec_MonitorValid_out m hm hs
  · exact spec_MonitorValid_in m hm hs

/-- Findings that are in order are not many. -/
theorem found_few {n : Int} {l : List (Int × Int)} (hn : n ≤ 60) (h : fsOk n l = true) : l.length ≤ 20000 := by
  have key : ∀ i, i < l.length → (i : Int) ≤ (nth l i).1 * 200 + (nth l i).2 := by
    intro i
    induction i with
    | zero =>
      intro hi
      have := fOk_range (fsOk_all h _ (nth_mem hi))
      omega
    | succ k ih =>
      intro hi
      have h1 := ih (by omega)
      have h2 := allTo_iff.1 h (k + 1) hi
      simp [fsP, fLess] at h2
      have a1 := fOk_range (fsOk_all h _ (nth_mem hi))
      have a2 := fOk_range (fsOk_all h _ (nth_mem (show k < l.length by omega)))
      rcases h2.2 with q | q <;> omega
  by_cases h0 : l.length = 0
  · omega
  · have h1 := key (l.length - 1) (by omega)
    have a1 := fOk_range (fsOk_all h _ (nth_mem (show l.length - 1 < l.length by omega)))
    omega

theorem fat_bd {m : Monitor} (h : m.ok = true) : m.bd := by
  have mo := mon_iff.1 h
  have h1 := mo.recs
  have h2 := mo.len
  have h3 := found_few (n := m.records) (by omega) mo.found
  exact ⟨by omega, by omega, fun x hx => Assoc.ok_bd (mo.each x hx).1, by omega⟩

theorem spec_ReportText_fat (m : Monitor) (hm : m.fat) : Fn Tryd.prog fn_spec_ReportText [m.v] [] (.str (reportT m)) [] := by
  cases hok : m.ok
  · refine Fn.of_go ln_spec_ReportText rfl ?_
    have f1 := spec_MonitorValid_fat m hm
    rw [hok] at f1
    simp only [mon_v] at f1
    simp [ac_spec_ReportText, mon_v]
    refine goCall_eq f1 (by simp) ?_
    simp
    exact Ends.mk [] [] (by simp [reportT, hok])
  · exact spec_ReportText_ok m (fat_bd hok)

theorem impl_ReportText_fat (m : Monitor) (hm : m.fat) : Fn Tryd.prog fn_impl_ReportText [m.v] [] (.str (reportT m)) [] := by
  cases hok : m.ok
  · refine Fn.of_go ln_impl_ReportText rfl ?_
    have f1 := impl_MonitorValid_fat m hm
    rw [hok] at f1
    simp only [mon_v] at f1
    simp [ac_impl_ReportText, mon_v]
    refine goCall_eq f1 (by simp) ?_
    simp
    exact Ends.mk [] [] (by simp [reportT, hok])
  · exact impl_ReportText_ok m (fat_bd hok)
end

end Go.Proofs.YtnhhcfbigjpfeaaDoor
