/-
  Wrong associations, chunks and packets drawn.
  Packets for an association, drawn.
  Comparing lists, sides and associations; packets of a side.
  What the laws of steps have in common.
  Monitors of the program: valid ones, and what is found in them.
-/
import Derived.Test.YtpcfbgeabehmbaaGreatV29
import Derived.Test.YtpcfbgeabehmbaaGreatV26
import Derived.Test.YtpcfbgeabehmbaaGreatV17
import Derived.Test.YtpcfbgeabehmbaaGreatV24
namespace Go.Proofs.YtpcfbgeabehmbaaGreat
set_option linter.all false

section
set_option maxRecDepth 200000
set_option maxHeartbeats 16000000
attribute [-simp] List.getD_eq_getElem?_getD

section
variable {st : St} {p : Nat} {src : List UInt8} {a : Int} {d : AD} {rs : List AOp} {k : List It} {Q : AE → St → Prop}
end

/-- A chunk that was drawn. -/
inductive CnR (src : List UInt8) (a k : Int) : V → List (List V) → Prop
  | mk (c : Chunk) (b : Int) (hb : a ≤ b ∧ b ≤ a + k) : CnR src a k c.v [[bsl src, .int .i64 b]]

end

section
set_option maxRecDepth 200000
set_option maxHeartbeats 16000000
attribute [-simp] List.getD_eq_getElem?_getD

/-- A packet that was drawn. -/
inductive PqR (src : List UInt8) (a k : Int) : V → List (List V) → Prop
  | mk (p : Packet) (b : Int) (h : p.chunks.length ≤ 9) (hb : a ≤ b ∧ b ≤ a + k) : PqR src a k p.v [[bsl src, .int .i64 b]]

/-- An association and a packet that were drawn. -/
inductive ApR : V → List (List V) → Prop
  | mk (x : Assoc) (p : Packet) (hx : x.dr) (hp : p.chunks.length ≤ 9) : ApR (.tup [x.v, p.v]) []
end

section
set_option maxRecDepth 200000
set_option maxHeartbeats 4000000
attribute [-simp] List.getD_eq_getElem?_getD

theorem sameParts_ok (a b : List Part) (ha : a.length ≤ 1000000000000) : Fn Tryz.prog fn_laws_sameParts [psl a, psl b] [] (.bool (decide (a = b))) [] := by
  refine Fn.of_go ln_laws_sameParts rfl ?_
  simp [ac_laws_sameParts, psl]
  refine goTest_dec (fun hl => ?_) (fun hl => ?_)
  rotate_left
  · simp [hl]
    exact Ends.mk [] [] (by simp [show a ≠ b from fun e => hl (by rw [e])])
  simp [hl]
  refine go_loop (fun i => { env := [(0, psl a), (1, psl b), (5, .int .i64 (i : Nat))], loc := [], box := [], stat := [] }) (fun i => i ≤ a.length ∧ ∀ k, k < i → nth a k = nth b k) (fun i => a.length - i) 0 ⟨by omega, fun k hk => by omega⟩ (Weak.of [] [] (by simp [psl])) ?_
  rintro i ⟨hi, hp⟩
  simp [psl, hl]
  refine goTest_dec (fun hlt => ?_) (fun hge => ?_)
  · have hlt1 : i < a.length := by omega
    have hlt2 : i < b.length := by omega
    have hne := part_ne (nth a i) (nth b i)
    simp [hlt, hlt1, hlt2, pt_v]
    simp only [hne]
    by_cases h1 : nth a i = nth b i
    · simp [h1]
      exact ⟨by omega, .mk (i + 1) ⟨by omega, nth_all hp h1⟩ (by omega) (Weak.of [] [] (by simp [psl]))⟩
    · simp [h1]
      exact Ends.mk [] [] (by simp [show a ≠ b from fun e => h1 (by rw [e])])
  · obtain rfl : i = a.length := by omega
    simp [hl]
    exact Ends.mk [] [] (by simp [nth_ext hl hp])

theorem side_eq (a b : Side) : decide (a = b) = (decide (a.tag = b.tag) && (decide (a.streams = b.streams) && (decide (a.first = b.first) && (decide (a.acked = b.acked) && decide (a.sent = b.sent))))) := by
  rw [Bool.eq_iff_iff]
  cases a; cases b
  simp
  exact fun _ _ _ => and_comm

theorem sameSide_ok (a b : Side) (ha : a.sent.length ≤ 1000000000000) : Fn Tryz.prog fn_laws_sameSide [a.v, b.v] [] (.bool (decide (a = b))) [] := by
  refine Fn.of_go ln_laws_sameSide rfl ?_
  have f1 := sameParts_ok a.sent b.sent ha
  simp only [psl] at f1
  have e := side_eq a b
  simp [ac_laws_sameSide, side_v]
  repeat' (first
    | (refine goTest_dec (fun q => ?_) (fun q => ?_) <;> simp [q])
    | (refine goCall_eq f1 (by simp) ?_; simp)
    | (refine Ends.mk [] [] ?_; rw [e]; simp [*] <;> fail))

theorem assoc_eq (a b : Assoc) : decide (a = b) = (decide (a.src = b.src) && (decide (a.dst = b.dst) && (decide (a.state = b.state) && ((a.byB == b.byB) && (decide (a.a = b.a) && decide (a.b = b.b)))))) := by
  rw [Bool.eq_iff_iff]
  cases a; cases b
  simp

theorem sameAssoc_ok (a b : Assoc) (ha : a.a.sent.length ≤ 1000000000000) (hb : a.b.sent.length ≤ 1000000000000) : Fn Tryz.prog fn_laws_sameAssoc [a.v, b.v] [] (.bool (decide (a = b))) [] := by
  refine Fn.of_go ln_laws_sameAssoc rfl ?_
  have f1 := sameSide_ok a.a b.a ha
  have f2 := sameSide_ok a.b b.b hb
  simp only [side_v] at f1 f2
  have e := assoc_eq a b
  cases hw1 : a.byB <;> cases hw2 : b.byB
  all_goals
    rw [hw1, hw2] at e
    simp [ac_laws_sameAssoc, assoc_v, hw1, hw2]
    repeat' (first
      | (refine goTest_dec (fun q => ?_) (fun q => ?_) <;> simp [q])
      | (refine goCall_eq f1 (by simp) ?_; simp)
      | (refine goCall_eq f2 (by simp) ?_; simp)
      | (refine Ends.mk [] [] ?_; rw [e]; simp [*] <;> fail))

end

section
set_option maxRecDepth 200000
set_option maxHeartbeats 8000000
attribute [-simp] List.getD_eq_getElem?_getD

end

section
set_option maxRecDepth 200000
set_option maxHeartbeats 8000000
attribute [-simp] List.getD_eq_getElem?_getD

theorem impl_MonitorValid_ok (m : Monitor) (hm : m.bd) : Fn Tryz.prog fn_impl_MonitorValid [m.v] [] (.bool m.ok) [] := by
  refine Fn.of_go ln_impl_MonitorValid rfl ?_
  have hl := hm.len
  have hf := hm.found
  have hr := hm.recs
  have hmo : m.ok = (allTo (listAt m.list) m.list.length && (fsOk m.records m.found && (inB m.records 0 60 && decide (m.list.length ≤ 3)))) := by unfold Monitor.ok; simp only [Bool.and_assoc]
  have no : ¬ (0 ≤ m.records ∧ m.records ≤ 60 ∧ m.list.length ≤ 3) → m.ok = false := by
    intro h
    rw [hmo]
    simp [inB]
    intros; omega
  simp [ac_impl_MonitorValid, mon_v]
  cases q1 : decide (m.records < 0)
  rotate_left
  · simp; exact Ends.mk [] [] (by simp [no (by have := of_decide_eq_true q1; omega)])
  simp
  cases q2 : decide (60 < m.records)
  rotate_left
  · simp; exact Ends.mk [] [] (by simp [no (by have := of_decide_eq_true q2; omega)])
  simp
  cases q3 : decide (3 < m.list.length)
  rotate_left
  · simp; exact Ends.mk [] [] (by simp [no (by have := of_decide_eq_true q3; omega)])
  simp
  have q1 := of_decide_eq_false q1
  have q2 := of_decide_eq_false q2
  have q3 := of_decide_eq_false q3
  refine go_loop (fun i : Nat => { env := [(1, .ptr 1 0), (22, .sl none 14 (m.list.map Assoc.v)), (23, .int .i64 (m.list.length : Nat)), (24, .int .i64 (i : Nat))], loc := [], box := [(1, m.cells)], stat := [] }) (fun i => i ≤ m.list.length ∧ allTo (listAt m.list) i = true) (fun i => m.list.length - i) 0 ⟨by omega, rfl⟩ (Weak.of [] [(1, 1)] (by simp [Monitor.cells, fsl])) ?_
  rintro i ⟨hi, hp⟩
  simp [Monitor.cells, fsl]
  refine goTest_dec (fun hlt => ?_) (fun hge => ?_)
  · have hbad := bad_list hlt
    have f1 := impl_AssocValid_ok (nth m.list i) (hm.each _ (nth_mem hlt))
    simp only [assoc_v] at f1
    have hla : listAt m.list i = ((nth m.list i).ok && decide ((nth m.list i).state ≠ 0) && allTo (fun k => !meet (nth m.list k).ports (nth m.list i).ports) i) := rfl
    simp [hlt, assoc_v]
    refine goCall_eq f1 (by simp) ?_
    cases q4 : (nth m.list i).ok
    · simp; exact Ends.mk [] [] (by simp [hbad (by simp [hla, q4])])
    simp
    refine goTest_dec (fun q5 => ?_) (fun q5 => ?_)
    · simp; exact Ends.mk [] [] (by simp [hbad (by simp [hla, q5])])
    simp
    obtain ⟨tk, htk⟩ : ∃ tk, tk = m.list.take i := ⟨_, rfl⟩
    have htl : tk.length = i := by rw [htk]; simp; omega
    have htn : ∀ k, k < i → nth tk k = nth m.list k := by
      intro k hk
      rw [nth_eq (by omega), nth_eq (by omega)]
      simp [htk]
    have htm : List.take i (m.list.map Assoc.v) = tk.map Assoc.v := by rw [htk, List.map_take]
    refine ⟨by omega, ?_⟩
    refine go_loop (fun k : Nat => { env := [(1, .ptr 1 0), (4, .ptr 4 0), (22, .sl none 14 (m.list.map Assoc.v)), (23, .int .i64 (m.list.length : Nat)), (24, .int .i64 (i : Nat)), (40, .sl none 14 (tk.map Assoc.v)), (41, .int .i64 (i : Nat)), (42, .int .i64 (k : Nat))], loc := [], box := [(1, m.cells), (4, (nth m.list i).cells)], stat := [] }) (fun k => k ≤ i ∧ allTo (fun k => !meet (nth m.list k).ports (nth m.list i).ports) k = true) (fun k => i - k) 0 ⟨by omega, rfl⟩ (Weak.of [] [(1, 1), (4, 4)] (by simp [Monitor.cells, fsl, Assoc.cells, Side.cells, psl, htm]; omega)) ?_
    rintro k ⟨hk, hpk⟩
    simp [Monitor.cells, fsl, Assoc.cells, Side.cells, psl]
    refine goTest_dec (fun hkl => ?_) (fun hkg => ?_)
    · have hkk : k < m.list.length := by omega
      have f2 := samePorts_ok (nth m.list k) (nth m.list i).src (nth m.list i).dst
      simp only [assoc_v] at f2
      have hpp : (nth m.list i).ports = ((nth m.list i).src, (nth m.list i).dst) := rfl
      simp [htl, hkl, htn k hkl, assoc_v]
      refine goCall_eq f2 (by simp) ?_
      simp
      refine goTest_bool (fun q6 => ?_) (fun q6 => ?_)
      · simp; exact Ends.mk [] [] (by simp [hbad (by rw [hla, allTo_false hkl (by simp [hpp, q6])]; simp)])
      · simp
        exact ⟨by omega, Again.mk (k + 1) ⟨hkl, allTo_succ hpk (by simp [hpp, q6])⟩ (by omega) (Weak.of [] [(1, 1), (4, 4)] (by simp [Monitor.cells, fsl, Assoc.cells, Side.cells, psl]))⟩
    · obtain rfl : k = i := by omega
      simp
      exact ⟨by omega, Again.mk (k + 1) ⟨hlt, allTo_succ hp (by rw [hla, q4, hpk]; simp [q5])⟩ (by omega) (Weak.of [] [(1, 1)] (by simp [Monitor.cells, fsl]))⟩
  · obtain rfl : i = m.list.length := by omega
    have f3 := foundOk_ok m.found m.records (by omega)
    simp only [fsl] at f3
    have e : m.ok = fsOk m.records m.found := by rw [hmo, hp]; simp [inB]; intros; omega
    rw [e]
    simp
    refine goCall_eq f3 (by simp) ?_
    simp
    exact Ends.mk [] [] (by simp)

/-! ## Comparing monitors -/

def asl (l : List Assoc) : V := .sl none 14 (l.map Assoc.v)

theorem sameAssocs_ok (a b : List Assoc) (ha : a.length ≤ 1000000) (h1 : ∀ x ∈ a, x.bd) (h2 : ∀ x ∈ b, x.bd) : Fn Tryz.prog fn_laws_sameAssocs [asl a, asl b] [] (.bool (decide (a = b))) [] := by
  refine Fn.of_go ln_laws_sameAssocs rfl ?_
  simp [ac_laws_sameAssocs, asl]
  refine goTest_dec (fun hl => ?_) (fun hl => ?_)
  rotate_left
  · simp [hl]
    exact Ends.mk [] [] (by simp [show a ≠ b from fun e => hl (by rw [e])])
  simp [hl]
  refine go_loop (fun i => { env := [(0, asl a), (1, asl b), (5, .int .i64 (i : Nat))], loc := [], box := [], stat := [] }) (fun i => i ≤ a.length ∧ ∀ k, k < i → nth a k = nth b k) (fun i => a.length - i) 0 ⟨by omega, fun k hk => by omega⟩ (Weak.of [] [] (by simp [asl])) ?_
  rintro i ⟨hi, hp⟩
  simp [asl, hl]
  refine goTest_dec (fun hlt => ?_) (fun hge => ?_)
  · have hlt1 : i < a.length := by omega
    have hlt2 : i < b.length := by omega
    have b1 := h1 _ (nth_mem hlt1)
    have b2 := h2 _ (nth_mem hlt2)
    have f1 := sameAssoc_ok (nth a i) (nth b i) (by have := b1.1.2; omega) (by have := b1.2.2; omega)
    simp only [assoc_v] at f1
    simp [hlt, hlt1, hlt2, assoc_v]
    refine goCall_eq f1 (by simp) ?_
    by_cases q : nth a i = nth b i
    · simp [q]
      exact ⟨by omega, .mk (i + 1) ⟨by omega, nth_all hp q⟩ (by omega) (Weak.of [] [] (by simp [asl]))⟩
    · simp [q]
      exact Ends.mk [] [] (by simp [show a ≠ b from fun e => q (by rw [e])])
  · obtain rfl : i = a.length := by omega
    simp [hl]
    exact Ends.mk [] [] (by simp [nth_ext hl hp])

theorem monitor_eq (a b : Monitor) : decide (a = b) = (decide (a.records = b.records) && (decide (a.list = b.list) && decide (a.found = b.found))) := by
  rw [Bool.eq_iff_iff]
  cases a; cases b
  simp

theorem sameMonitor_ok (a b : Monitor) (ha : a.bd) (hb : b.bd) : Fn Tryz.prog fn_laws_sameMonitor [a.v, b.v] [] (.bool (decide (a = b))) [] := by
  refine Fn.of_go ln_laws_sameMonitor rfl ?_
  have f1 := sameAssocs_ok a.list b.list (by have := ha.len; omega) ha.each hb.each
  have f2 := sameFound_ok a.found b.found (by have := ha.found; omega)
  simp only [asl, fsl] at f1 f2
  have e := monitor_eq a b
  simp [ac_laws_sameMonitor, mon_v]
  cases q1 : decide (a.records = b.records)
  · rw [q1] at e
    rw [e]
    simp
    exact Ends.mk [] [] (by simp)
  rw [q1] at e
  simp
  refine goCall_eq f1 (by simp) ?_
  cases q2 : decide (a.list = b.list)
  · rw [q2] at e
    rw [e]
    simp
    exact Ends.mk [] [] (by simp)
  rw [q2] at e
  rw [e]
  simp
  refine goCall_eq f2 (by simp) ?_
  simp
  exact Ends.mk [] [] (by simp)
end

end Go.Proofs.YtpcfbgeabehmbaaGreat
