/-
  Monitors, by the reference.
  Steps of monitors, by the reference.
  Steps and runs of monitors, by the reference.
  Monitors and associations drawn.
  Sides drawn; wrong associations.
  Parts and chunks that a side may send next, drawn.
  Wrong associations, chunks and packets drawn.
  Packets for an association, drawn.
  Comparing lists, sides and associations; packets of a side.
  What the laws of steps have in common.
  Monitors of the program: valid ones, and what is found in them.
  What was said, and what is known to have come: contracts.
  Texts of findings, as lists: written twice, cut, and with a space ahead.
  Reports, in plain words.
-/
import Derived.Test.YtnhhcfbigjpfeaaDoorQ23
import Derived.Test.YtnhhcfbigjpfeaaDoorQ18
import Derived.Test.YtnhhcfbigjpfeaaDoorQ22
namespace Go.Proofs.YtnhhcfbigjpfeaaDoor
set_option linter.all false

section
set_option maxRecDepth 200000
set_option maxHeartbeats 8000000
attribute [-simp] List.getD_eq_getElem?_getD

theorem bad_list {m : Monitor} {i : Nat} (hi : i < m.list.length) (h : listAt m.list i = false) : m.ok = false := by
  have := allTo_false hi h
  simp [Monitor.ok, this]
theorem bad_found {m : Monitor} {i : Nat} (hi : i < m.found.length) (h : fsP m.records m.found i = false) : m.ok = false := by
  have : fsOk m.records m.found = false := allTo_false hi h
  simp [Monitor.ok, this]

theorem spec_MonitorValid_ok (m : Monitor) (hm : m.bd) : Fn Tryd.prog fn_spec_MonitorValid [m.v] [] (.bool m.ok) [] := by
  refine Fn.of_go ln_spec_MonitorValid rfl ?_
  have hl := hm.len
  have hf := hm.found
  have hr := hm.recs
  simp [ac_spec_MonitorValid, mon_v]
  refine go_loop (fun i => { env := [(1, .ptr 1 0), (3, .int .i64 (i : Nat))], loc := [], box := [(1, m.cells)], stat := [] }) (fun i => i ≤ m.list.length ∧ allTo (listAt m.list) i = true) (fun i => m.list.length - i) 0 ⟨by omega, rfl⟩ (Weak.of [] [(1, 1)] (by simp [Monitor.cells, fsl])) ?_
  rintro i ⟨hi, hp⟩
  simp [Monitor.cells, fsl]
  refine goTest_dec (fun hlt => ?_) (fun hge => ?_)
  · have hbad := bad_list hlt
    have f1 := spec_AssocValid_ok (nth m.list i) (hm.each _ (nth_mem hlt))
    simp only [assoc_v] at f1
    have hla : listAt m.list i = ((nth m.list i).ok && decide ((nth m.list i).state ≠ 0) && allTo (fun k => !meet (nth m.list k).ports (nth m.list i).ports) i) := rfl
    simp [hlt, assoc_v]
    refine goCall_eq f1 (by simp) ?_
    cases q1 : (nth m.list i).ok
    · simp; exact Ends.mk [] [] (by simp [hbad (by simp [hla, q1])])
    simp [hlt, assoc_v]
    refine goTest_dec (fun q2 => ?_) (fun q2 => ?_)
    · simp [q2]; exact Ends.mk [] [] (by simp [hbad (by simp [hla, q2])])
    simp
    refine go_loop (fun k => { env := [(1, .ptr 1 0), (3, .int .i64 (i : Nat)), (4, .int .i64 (k : Nat))], loc := [], box := [(1, m.cells)], stat := [] }) (fun k => k ≤ i ∧ allTo (fun k => !meet (nth m.list k).ports (nth m.list i).ports) k = true) (fun k => i - k) 0 ⟨by omega, rfl⟩ (Weak.of [] [(1, 1)] (by simp [Monitor.cells, fsl])) ?_
    rintro k ⟨hk, hpk⟩
    simp [Monitor.cells, fsl]
    refine goTest_dec (fun hkl => ?_) (fun hkg => ?_)
    · have hkk : k < m.list.length := by omega
      have f2 := l32Pair_ok (nth m.list k) (nth m.list i)
      simp only [assoc_v] at f2
      simp [hlt, hkl, hkk, assoc_v]
      refine goCall_eq f2 (by simp) ?_
      simp
      refine goTest_bool (fun q3 => ?_) (fun q3 => ?_)
      · simp; exact Ends.mk [] [] (by simp [hbad (by rw [hla, allTo_false hkl (by simp [q3])]; simp)])
      · simp
        exact ⟨by omega, Again.mk (k + 1) ⟨hkl, allTo_succ hpk (by simp [q3])⟩ (by omega) (Weak.of [] [(1, 1)] (by simp [Monitor.cells, fsl]))⟩
    · obtain rfl : k = i := by omega
      simp
      exact ⟨by omega, Again.mk (k + 1) ⟨hlt, allTo_succ hp (by rw [hla, q1, hpk]; simp [q2])⟩ (by omega) (Weak.of [] [(1, 1)] (by simp [Monitor.cells, fsl]))⟩
  · obtain rfl : i = m.list.length := by omega
    simp
    refine go_loop (fun i => { env := [(1, .ptr 1 0), (5, .int .i64 (i : Nat))], loc := [], box := [(1, m.cells)], stat := [] }) (fun i => i ≤ m.found.length ∧ allTo (fsP m.records m.found) i = true) (fun i => m.found.length - i) 0 ⟨by omega, rfl⟩ (Weak.of [] [(1, 1)] (by simp [Monitor.cells, fsl])) ?_
    rintro i ⟨hi, hpf⟩
    simp [Monitor.cells, fsl]
    refine goTest_dec (fun hlt => ?_) (fun hge => ?_)
    · have hbad := bad_found hlt
      have hlt2 : i - 1 < m.found.length := by omega
      have hfp : fsP m.records m.found i = (fOk m.records (nth m.found i) && (i == 0 || fLess (nth m.found (i - 1)) (nth m.found i))) := rfl
      simp [hlt, fV]
      refine goDCall_eq (l32Finding_ok _ _ (by omega) (by omega)) (by simp [fV]) (by simp) ?_
      simp
      refine goTest_bool (fun h1 => ?_) (fun h1 => ?_)
      · simp [h1]
        refine goTest_dec (fun h2 => ?_) (fun h2 => ?_)
        · simp [h2, hlt, hlt2, fV]
          refine ⟨by omega, by omega, ?_⟩
          refine goCall_eq (l32Less_ok _ _) (by simp [fV]) ?_
          simp
          refine goTest_bool (fun h3 => ?_) (fun h3 => ?_)
          · simp [h3]
            exact ⟨by omega, .mk (i + 1) ⟨by omega, allTo_succ hpf (by simp [fsP, h1, h3])⟩ (by omega) (Weak.of [] [(1, 1)] (by simp [Monitor.cells, fsl]))⟩
          · simp [h3]
            exact Ends.mk [] [] (by simp [hbad (by simp [fsP, h1, h3, show i ≠ 0 by omega])])
        · simp [h2]
          exact ⟨by omega, .mk (i + 1) ⟨by omega, allTo_succ hpf (by obtain rfl : i = 0 := (by omega); simp [fsP, h1])⟩ (by omega) (Weak.of [] [(1, 1)] (by simp [Monitor.cells, fsl]))⟩
      · simp [h1]
        exact Ends.mk [] [] (by simp [hbad (by simp [fsP, h1])])
    · obtain rfl : i = m.found.length := by omega
      have hmo : m.ok = (inB m.records 0 60 && decide (m.list.length ≤ 3)) := by
        have : fsOk m.records m.found = true := hpf
        simp [Monitor.ok, hp, this]
      rw [hmo]
      simp
      refine goCall_eq (l6In_ok _ _ _) (by simp) ?_
      cases q : inB m.records 0 60
      · simp
        exact Ends.mk [] [] (by simp)
      · simp
        exact Ends.mk [] [] (by simp)
end

section
set_option maxRecDepth 200000
set_option maxHeartbeats 8000000
attribute [-simp] List.getD_eq_getElem?_getD

/-- What is told goes on behind what was found. -/
def told (m : Monitor) (r : List Int) : Monitor := ⟨m.records, m.list, m.found ++ r.map fun k => (m.records - 1, k)⟩
end

section
set_option maxRecDepth 200000
set_option maxHeartbeats 8000000
attribute [-simp] List.getD_eq_getElem?_getD

end

section
set_option maxRecDepth 200000
set_option maxHeartbeats 8000000
attribute [-simp] List.getD_eq_getElem?_getD

section
variable {st : St} {p : Nat} {src : List UInt8} {a : Int} {d : AD} {rs : List AOp} {k : List It} {Q : AE → St → Prop}
end

/-- A monitor that was drawn. -/
inductive MonR (src : List UInt8) (a k : Int) : V → List (List V) → Prop
  | mk (m : Monitor) (b : Int) (h : m.sm 2000) (hb : a ≤ b ∧ b ≤ a + k) : MonR src a k m.v [[bsl src, .int .i64 b]]

section
variable {st : St} {p : Nat} {src : List UInt8} {a : Int} {d : AD} {rs : List AOp} {k : List It} {Q : AE → St → Prop}
end

/-- Sides and associations that were drawn. -/
structure Side.dr (s : Side) : Prop where
  bd : s.bd
  str : s.streams ≤ 1000
structure Assoc.dr (x : Assoc) : Prop where
  a : x.a.dr
  b : x.b.dr
theorem Assoc.dr.bd {x : Assoc} (h : x.dr) : x.bd := ⟨h.a.bd, h.b.bd⟩
/-- An association that was drawn. -/
inductive AsR (src : List UInt8) (a k : Int) : V → List (List V) → Prop
  | mk (x : Assoc) (b : Int) (h : x.dr) (hb : a ≤ b ∧ b ≤ a + k) : AsR src a k x.v [[bsl src, .int .i64 b]]
end

section
set_option maxRecDepth 200000
set_option maxHeartbeats 16000000
attribute [-simp] List.getD_eq_getElem?_getD

section
variable {st : St} {p : Nat} {src : List UInt8} {a : Int} {d : AD} {rs : List AOp} {k : List It} {Q : AE → St → Prop}
end

/-- A side that was drawn. -/
inductive SdR (src : List UInt8) (a k : Int) : V → List (List V) → Prop
  | mk (s : Side) (b : Int) (h : s.dr) (hb : a ≤ b ∧ b ≤ a + k) : SdR src a k s.v [[bsl src, .int .i64 b]]
end

section
set_option maxRecDepth 200000
set_option maxHeartbeats 16000000
attribute [-simp] List.getD_eq_getElem?_getD

/-- A part that was drawn. -/
inductive PnR (src : List UInt8) (a k : Int) : V → List (List V) → Prop
  | mk (d : Part) (b : Int) (hb : a ≤ b ∧ b ≤ a + k) : PnR src a k d.v [[bsl src, .int .i64 b]]
end

section
set_option maxRecDepth 200000
set_option maxHeartbeats 16000000
attribute [-simp] List.getD_eq_getElem?_getD

section
variable {st : St} {p : Nat} {src : List UInt8} {a : Int} {d : AD} {rs : List AOp} {k : List It} {Q : AE → St → Prop}
end

/-- A chunk that was drawn. -/
inductive CnR (src : List UInt8) (a k : Int) : V → List (List V) → Prop
  | mk (c : Chunk) (b : Int) (hb : a ≤ b ∧ b ≤ a + k) : CnR src a k c.v [[bsl src, .int .i64 b]]

end

section
set_option maxRecDepth 200000
set_option maxHeartbeats 16000000
attribute [-simp] List.getD_eq_getElem?_getD

/-- A packet that was drawn. -/
inductive PqR (src : List UInt8) (a k : Int) : V → List (List V) → Prop
  | mk (p : Packet) (b : Int) (h : p.chunks.length ≤ 9) (hb : a ≤ b ∧ b ≤ a + k) : PqR src a k p.v [[bsl src, .int .i64 b]]

/-- An association and a packet that were drawn. -/
inductive ApR : V → List (List V) → Prop
  | mk (x : Assoc) (p : Packet) (hx : x.dr) (hp : p.chunks.length ≤ 9) : ApR (.tup [x.v, p.v]) []
end

section
set_option maxRecDepth 200000
set_option maxHeartbeats 4000000
attribute [-simp] List.getD_eq_getElem?_getD

end

section
set_option maxRecDepth 200000
set_option maxHeartbeats 8000000
attribute [-simp] List.getD_eq_getElem?_getD

end

section
set_option maxRecDepth 200000
set_option maxHeartbeats 8000000
attribute [-simp] List.getD_eq_getElem?_getD

theorem impl_MonitorValid_ok (m : Monitor) (hm : m.bd) : Fn Tryd.prog fn_impl_MonitorValid [m.v] [] (.bool m.ok) [] := by
  refine Fn.of_go ln_impl_MonitorValid rfl ?_
  have hl := hm.len
  have hf := hm.found
  have hr := hm.recs
  have hmo : m.ok = (allTo (listAt m.list) m.list.length && (fsOk m.records m.found && (inB m.records 0 60 && decide (m.list.length ≤ 3)))) := by unfold Monitor.ok; simp only [Bool.and_assoc]
  have no : ¬ (0 ≤ m.records ∧ m.records ≤ 60 ∧ m.list.length ≤ 3) → m.ok = false := by
    intro h
    rw [hmo]
    simp [inB]
    intros; omega
  simp [ac_impl_MonitorValid, mon_v]
  cases q1 : decide (m.records < 0)
  rotate_left
  · simp; exact Ends.mk [] [] (by simp [no (by have := of_decide_eq_true q1; omega)])
  simp
  cases q2 : decide (60 < m.records)
  rotate_left
  · simp; exact Ends.mk [] [] (by simp [no (by have := of_decide_eq_true q2; omega)])
  simp
  cases q3 : decide (3 < m.list.length)
  rotate_left
  · simp; exact Ends.mk [] [] (by simp [no (by have := of_decide_eq_true q3; omega)])
  simp
  have q1 := of_decide_eq_false q1
  have q2 := of_decide_eq_false q2
  have q3 := of_decide_eq_false q3
  refine go_loop (fun i : Nat => { env := [(1, .ptr 1 0), (22, .sl none 14 (m.list.map Assoc.v)), (23, .int .i64 (m.list.length : Nat)), (24, .int .i64 (i : Nat))], loc := [], box := [(1, m.cells)], stat := [] }) (fun i => i ≤ m.list.length ∧ allTo (listAt m.list) i = true) (fun i => m.list.length - i) 0 ⟨by omega, rfl⟩ (Weak.of [] [(1, 1)] (by simp [Monitor.cells, fsl])) ?_
  rintro i ⟨hi, hp⟩
  simp [Monitor.cells, fsl]
  refine goTest_dec (fun hlt => ?_) (fun hge => ?_)
  · have hbad := bad_list hlt
    have f1 := impl_AssocValid_ok (nth m.list i) (hm.each _ (nth_mem hlt))
    simp only [assoc_v] at f1
    have hla : listAt m.list i = ((nth m.list i).ok && decide ((nth m.list i).state ≠ 0) && allTo (fun k => !meet (nth m.list k).ports (nth m.list i).ports) i) := rfl
    simp [hlt, assoc_v]
    refine goCall_eq f1 (by simp) ?_
    cases q4 : (nth m.list i).ok
    · simp; exact Ends.mk [] [] (by simp [hbad (by simp [hla, q4])])
    simp
    refine goTest_dec (fun q5 => ?_) (fun q5 => ?_)
    · simp; exact Ends.mk [] [] (by simp [hbad (by simp [hla, q5])])
    simp
    obtain ⟨tk, htk⟩ : ∃ tk, tk = m.list.take i := ⟨_, rfl⟩
    have htl : tk.length = i := by rw [htk]; simp; omega
    have htn : ∀ k, k < i → nth tk k = nth m.list k := by
      intro k hk
      rw [nth_eq (by omega), nth_eq (by omega)]
      simp [htk]
    have htm : List.take i (m.list.map Assoc.v) = tk.map Assoc.v := by rw [htk, List.map_take]
    refine ⟨by omega, ?_⟩
    refine go_loop (fun k : Nat => { env := [(1, .ptr 1 0), (4, .ptr 4 0), (22, .sl none 14 (m.list.map Assoc.v)), (23, .int .i64 (m.list.length : Nat)), (24, .int .i64 (i : Nat)), (40, .sl none 14 (tk.map Assoc.v)), (41, .int .i64 (i : Nat)), (42, .int .i64 (k : Nat))], loc := [], box := [(1, m.cells), (4, (nth m.list i).cells)], stat := [] }) (fun k => k ≤ i ∧ allTo (fun k => !meet (nth m.list k).ports (nth m.list i).ports) k = true) (fun k => i - k) 0 ⟨by omega, rfl⟩ (Weak.of [] [(1, 1), (4, 4)] (by simp [Monitor.cells, fsl, Assoc.cells, Side.cells, psl, htm]; omega)) ?_
    rintro k ⟨hk, hpk⟩
    simp [Monitor.cells, fsl, Assoc.cells, Side.cells, psl]
    refine goTest_dec (fun hkl => ?_) (fun hkg => ?_)
    · have hkk : k < m.list.length := by omega
      have f2 := samePorts_ok (nth m.list k) (nth m.list i).src (nth m.list i).dst
      simp only [assoc_v] at f2
      have hpp : (nth m.list i).ports = ((nth m.list i).src, (nth m.list i).dst) := rfl
      simp [htl, hkl, htn k hkl, assoc_v]
      refine goCall_eq f2 (by simp) ?_
      simp
      refine goTest_bool (fun q6 => ?_) (fun q6 => ?_)
      · simp; exact Ends.mk [] [] (by simp [hbad (by rw [hla, allTo_false hkl (by simp [hpp, q6])]; simp)])
      · simp
        exact ⟨by omega, Again.mk (k + 1) ⟨hkl, allTo_succ hpk (by simp [hpp, q6])⟩ (by omega) (Weak.of [] [(1, 1), (4, 4)] (by simp [Monitor.cells, fsl, Assoc.cells, Side.cells, psl]))⟩
    · obtain rfl : k = i := by omega
      simp
      exact ⟨by omega, Again.mk (k + 1) ⟨hlt, allTo_succ hp (by rw [hla, q4, hpk]; simp [q5])⟩ (by omega) (Weak.of [] [(1, 1)] (by simp [Monitor.cells, fsl]))⟩
  · obtain rfl : i = m.list.length := by omega
    have f3 := foundOk_ok m.found m.records (by omega)
    simp only [fsl] at f3
    have e : m.ok = fsOk m.records m.found := by rw [hmo, hp]; simp [inB]; intros; omega
    rw [e]
    simp
    refine goCall_eq f3 (by simp) ?_
    simp
    exact Ends.mk [] [] (by simp)

end

section
set_option maxRecDepth 200000
set_option maxHeartbeats 8000000
attribute [-simp] List.getD_eq_getElem?_getD

deriving instance DecidableEq, Inhabited for Msg

/-- The text that is open after some parts. -/
def openT : List Part → List UInt8 → List UInt8
  | [], t => t
  | d :: r, t => openT r (keptT d t ++ d.text)

theorem saidF_snoc : ∀ (l : List Part) (d : Part) (t : List UInt8), saidF (l ++ [d]) t = saidF l t ++ (if d.last then [⟨d.stream, d.ssn, d.loose, keptT d (openT l t) ++ d.text⟩] else [])
  | [], d, t => by simp only [List.nil_append, saidF, openT]
  | e :: l, d, t => by
    simp only [List.cons_append, saidF, openT]
    cases e.last
    · simp [saidF_snoc l d]
    · simp [saidF_snoc l d]
theorem openT_snoc : ∀ (l : List Part) (d : Part) (t : List UInt8), openT (l ++ [d]) t = keptT d (openT l t) ++ d.text
  | [], d, t => rfl
  | e :: l, d, t => openT_snoc l d _
theorem saidF_len : ∀ (l : List Part) (t : List UInt8), (saidF l t).length ≤ l.length
  | [], t => Nat.le_refl _
  | d :: l, t => by
    have := saidF_len l (keptT d t ++ d.text)
    simp only [saidF]
    cases d.last
    · simp; omega
    · simp; omega
theorem keptT_len (d : Part) (t : List UInt8) : (keptT d t).length ≤ t.length := by
  unfold keptT; split <;> simp
theorem openT_len : ∀ (l : List Part) (t : List UInt8), (∀ d ∈ l, d.text.length ≤ 20) → (openT l t).length ≤ t.length + 20 * l.length
  | [], t, _ => by simp [openT]
  | d :: l, t, h => by
    have h1 := openT_len l (keptT d t ++ d.text) (fun e he => h e (List.mem_cons_of_mem _ he))
    have h2 := keptT_len d t
    have h3 := h d (List.mem_cons_self ..)
    simp only [openT, List.length_cons]
    rw [List.length_append] at h1
    omega
theorem side_texts {s : Side} (h : s.ok = true) : ∀ d ∈ s.sent, d.text.length ≤ 20 := by
  by_cases ht : s.tag = 0
  · have : s.sent = [] := ((side_zero ht).1 h).2.2.1
    simp [this]
  · have hp := ((side_iff ht).1 h).1
    intro d hd
    obtain ⟨i, hi, e⟩ := List.getElem_of_mem hd
    have := allTo_iff.1 hp i hi
    simp only [partAt, Bool.and_eq_true] at this
    have := (part_facts this.1.1.1).2.2.2.2
    rw [nth_eq hi, e] at this
    exact this

theorem saidIn_ok (l : List Part) (hl : l.length ≤ 1000) (ht : ∀ d ∈ l, d.text.length ≤ 20) : Fn Tryd.prog fn_impl_saidIn [psl l] [] (.sl none 4 ((saidF l []).map mV)) [] := by
  refine Fn.of_go ln_impl_saidIn rfl ?_
  simp [ac_impl_saidIn, psl]
  refine go_loop (fun i : Nat => { env := [(3, .sl (some 0) 4 ((saidF (l.take i) []).map mV)), (4, .str (openT (l.take i) [])), (8, psl l), (9, .int .i64 (l.length : Nat)), (10, .int .i64 (i : Nat))], loc := [], box := [], stat := [(0, some (.own (saidF (l.take i) []).length 4))] }) (fun i => i ≤ l.length) (fun i => l.length - i) 0 (by omega) (Weak.of [(0, some 112, 0, 4)] [] (by simp [psl, saidF, openT])) ?_
  intro i hi
  simp [psl]
  refine goTest_dec (fun hlt => ?_) (fun hge => ?_)
  · have hsn := saidF_snoc (l.take i) (nth l i) []
    have hop := openT_snoc (l.take i) (nth l i) []
    rw [← take_nth hlt] at hsn hop
    have h1 := openT_len (l.take i) [] (fun d hd => ht d (List.mem_of_mem_take hd))
    have h2 := saidF_len (l.take i) []
    have h3 := ht _ (nth_mem hlt)
    have h4 : (l.take i).length = i := by simp; omega
    rw [h4] at h1 h2
    simp only [List.length_nil] at h1
    simp [hlt, pt_v]
    generalize openT (l.take i) [] = t at *
    generalize saidF (l.take i) [] = M at *
    generalize nth l i = d at *
    have hm : mV ⟨d.stream, d.ssn, d.loose, keptT d t ++ d.text⟩ = .agg [.int .i64 d.stream, .int .i64 d.ssn, .bool d.loose, .str (keptT d t ++ d.text)] := rfl
    cases e1 : d.first
    · have ek : keptT d t = t := by unfold keptT; rw [e1]; rfl
      rw [ek] at hsn hop hm
      simp
      refine ⟨by omega, ?_⟩
      cases e2 : d.last
      · rw [e2] at hsn
        simp at hsn
        simp
        exact ⟨by omega, Again.mk (i + 1) hlt (by omega) (Weak.of [(0, some 0, M.length, 4)] [] (by simp [psl, hsn, hop]))⟩
      · rw [e2] at hsn
        simp only [if_true] at hsn
        simp
        exact ⟨by unfold roomOk; omega, by omega, Again.mk (i + 1) hlt (by omega) (Weak.of [(0, some 0, M.length + 1, 4)] [] (by simp [psl, hsn, hop, hm]))⟩
    · have ek : keptT d t = [] := by unfold keptT; rw [e1]; rfl
      rw [ek] at hsn hop hm
      simp only [List.nil_append] at hsn hop hm
      simp
      refine ⟨by omega, ?_⟩
      cases e2 : d.last
      · rw [e2] at hsn
        simp at hsn
        simp
        exact ⟨by omega, Again.mk (i + 1) hlt (by omega) (Weak.of [(0, some 0, M.length, 4)] [] (by simp [psl, hsn, hop]))⟩
      · rw [e2] at hsn
        simp only [if_true] at hsn
        simp
        exact ⟨by unfold roomOk; omega, by omega, Again.mk (i + 1) hlt (by omega) (Weak.of [(0, some 0, M.length + 1, 4)] [] (by simp [psl, hsn, hop, hm]))⟩
  · obtain rfl : i = l.length := by omega
    simp
    exact Ends.mk [] [] (by simp)

theorem SideSaid_ok (s : Side) (hb : s.bd) (h : s.ok = true) : Fn Tryd.prog fn_impl_SideSaid [s.v] [] (.sl none 4 ((saidS s).map mV)) [] := by
  refine Fn.of_go ln_impl_SideSaid rfl ?_
  have f1 := impl_SideValid_ok s hb
  have f2 := saidIn_ok s.sent (by have := (Side.ok_first h).2.1; omega) (side_texts h)
  have e : saidS s = saidF s.sent [] := by unfold saidS; rw [if_pos h]
  rw [h] at f1
  rw [e]
  simp only [side_v, psl] at f1 f2
  simp [ac_impl_SideSaid, side_v]
  refine goCall_eq f1 (by simp) ?_
  simp
  refine goCall_eq f2 (by simp) ?_
  simp
  exact Ends.mk [] [] (by simp)

theorem SideKnown_ok (s : Side) (hb : s.bd) (h : s.ok = true) : Fn Tryd.prog fn_impl_SideKnown [s.v] [] (.sl none 4 ((knownS s).map mV)) [] := by
  refine Fn.of_go ln_impl_SideKnown rfl ?_
  have f1 := impl_SideValid_ok s hb
  have hf := Side.ok_first h
  have f2 := saidIn_ok (s.sent.take s.acked.toNat) (by simp; omega) (fun d hd => side_texts h d (List.mem_of_mem_take hd))
  have e : knownS s = saidF (s.sent.take s.acked.toNat) [] := by unfold knownS; rw [if_pos h]
  rw [h] at f1
  rw [e]
  simp only [side_v, psl, List.map_take] at f1 f2
  simp [ac_impl_SideKnown, side_v]
  refine goCall_eq f1 (by simp) ?_
  simp
  refine ⟨by omega, ?_⟩
  refine goCall_eq f2 (by simp) ?_
  simp
  exact Ends.mk [] [] (by simp)

end

section

end

section
set_option maxRecDepth 200000
set_option maxHeartbeats 8000000
attribute [-simp] List.getD_eq_getElem?_getD

/-- What the reference takes for said: a text ends with its last part. -/
def saidG : List Part → List UInt8 → List Msg
  | [], _ => []
  | d :: r, t => if d.last then ⟨d.stream, d.ssn, d.loose, t ++ d.text⟩ :: saidG r [] else saidG r (t ++ d.text)

/-- Each part that follows a last one is a first one, and no other. -/
def chainP : Bool → List Part → Bool
  | _, [] => true
  | b, d :: r => (d.first == b) && chainP d.last r

theorem saidF_chain : ∀ (l : List Part) (b : Bool) (t : List UInt8), chainP b l = true → saidF l t = saidG l (if b then [] else t)
  | [], _, _, _ => rfl
  | d :: r, b, t, h => by
    simp only [chainP, Bool.and_eq_true, beq_iff_eq] at h
    obtain ⟨h1, h2⟩ := h
    have hk : keptT d t = if b then [] else t := by unfold keptT; rw [h1]
    have ih := saidF_chain r d.last (keptT d t ++ d.text) h2
    simp only [saidF, saidG]
    rw [ih, hk]
    cases d.last <;> simp

theorem chainP_take : ∀ (l : List Part) (b : Bool) (k : Nat), chainP b l = true → chainP b (l.take k) = true
  | [], _, k, _ => by simp [chainP]
  | d :: r, b, 0, _ => rfl
  | d :: r, b, k + 1, h => by
    simp only [chainP, Bool.and_eq_true, beq_iff_eq] at h
    simp only [List.take_succ_cons, chainP, Bool.and_eq_true, beq_iff_eq]
    exact ⟨h.1, chainP_take r d.last k h.2⟩

def lastB (p : List Part) : Bool := match p.getLast? with
  | some x => x.last
  | none => true

theorem chain_of : ∀ (l p : List Part), (∀ i, i < l.length → followS (p ++ l.take i) (nth l i) = true) → chainP (lastB p) l = true
  | [], _, _ => rfl
  | d :: r, p, h => by
    simp only [chainP, Bool.and_eq_true, beq_iff_eq]
    refine ⟨?_, ?_⟩
    · have h0 := h 0 (by simp)
      have e : nth (d :: r) 0 = d := rfl
      rw [e] at h0
      simp only [List.take_zero, List.append_nil] at h0
      unfold followS at h0
      unfold lastB
      cases hp : p.getLast? with
      | none =>
        rw [hp] at h0
        simp only [Bool.and_eq_true] at h0
        exact h0.1
      | some x =>
        rw [hp] at h0
        simp only at h0 ⊢
        cases hx : x.last
        · rw [hx] at h0
          simp at h0
          exact h0.1
        · rw [hx] at h0
          simp at h0
          exact h0.1
    · have h2 := chain_of r (p ++ [d]) (fun i hi => by
        have := h (i + 1) (by simpa using hi)
        have e : nth (d :: r) (i + 1) = nth r i := rfl
        rw [e] at this
        simpa using this)
      have e : lastB (p ++ [d]) = d.last := by simp [lastB]
      rw [e] at h2
      exact h2

theorem side_chain {s : Side} (h : s.ok = true) : chainP true s.sent = true := by
  by_cases ht : s.tag = 0
  · have : s.sent = [] := ((side_zero ht).1 h).2.2.1
    simp [this, chainP]
  · have hp := ((side_iff ht).1 h).1
    have := chain_of s.sent [] (fun i hi => by
      have := allTo_iff.1 hp i hi
      simp only [partAt, Bool.and_eq_true] at this
      simpa using this.2)
    exact this

theorem said_eq {s : Side} (h : s.ok = true) (k : Nat) : saidG (s.sent.take k) [] = saidF (s.sent.take k) [] := by
  have := saidF_chain _ true [] (chainP_take _ true k (side_chain h))
  simpa using this.symm

theorem side_parts {s : Side} (h : s.ok = true) : ∀ d ∈ s.sent, d.ok = true := by
  by_cases ht : s.tag = 0
  · have : s.sent = [] := ((side_zero ht).1 h).2.2.1
    simp [this]
  · have hp := ((side_iff ht).1 h).1
    intro d hd
    obtain ⟨i, hi, e⟩ := List.getElem_of_mem hd
    have := allTo_iff.1 hp i hi
    simp only [partAt, Bool.and_eq_true] at this
    rw [nth_eq hi, e] at this
    exact this.1.1.1

/-- Messages whose numbers and lengths are small. -/
def Msg.sm (n : Nat) (m : Msg) : Prop := inS m.stream = true ∧ inS m.ssn = true ∧ m.text.length ≤ n

theorem saidF_sm : ∀ (l : List Part) (t : List UInt8) (n : Nat), (∀ d ∈ l, d.ok = true) → t.length + 20 * l.length ≤ n → ∀ m ∈ saidF l t, m.sm n
  | [], _, _, _, _, m, hm => by simp [saidF] at hm
  | d :: r, t, n, h, hn, m, hm => by
    obtain ⟨p1, p2, p3, p4, p5⟩ := part_facts (h d (List.mem_cons_self ..))
    have hk := keptT_len d t
    have hl : (keptT d t ++ d.text).length + 20 * r.length ≤ n := by rw [List.length_append]; simp only [List.length_cons] at hn; omega
    have ih := saidF_sm r (keptT d t ++ d.text) n (fun e he => h e (List.mem_cons_of_mem _ he)) hl
    simp only [saidF] at hm
    split at hm
    · rcases List.mem_cons.1 hm with rfl | hm
      · exact ⟨p2, p3, by simp only; omega⟩
      · exact ih m hm
    · exact ih m hm

theorem side_msgs {s : Side} (h : s.ok = true) (k : Nat) : (∀ m ∈ saidF (s.sent.take k) [], m.sm 240) ∧ (saidF (s.sent.take k) []).length ≤ 12 := by
  have hl := (Side.ok_first h).2.1
  have hk : (s.sent.take k).length ≤ 12 := by simp; omega
  refine ⟨saidF_sm _ _ _ (fun d hd => side_parts h d (List.mem_of_mem_take hd)) (by simp only [List.length_nil]; omega), ?_⟩
  have := saidF_len (s.sent.take k) []
  omega

/-! ## The text -/

def okW : List UInt8 := [32, 111, 107]

/-- The line of a message. -/
def lineM (name : List UInt8) (m : Msg) (ok : Bool) : List UInt8 := name ++ [32] ++ msgT m ++ (if ok then okW else []) ++ [10]

/-- The lines of messages, of which the first 'k' are acknowledged. -/
def sideT (name : List UInt8) : Nat → List Msg → List UInt8
  | _, [] => []
  | k, m :: r => lineM name m (decide (0 < k)) ++ sideT name (k - 1) r

theorem sideT_take (name : List UInt8) : ∀ (l : List Msg) (k i : Nat), i < l.length → sideT name k (l.take (i + 1)) = sideT name k (l.take i) ++ lineM name (nth l i) (decide (i < k))
  | [], _, i, h => by simp at h
  | m :: r, k, 0, _ => by simp [sideT, nth]
  | m :: r, k, i + 1, h => by
    have ih := sideT_take name r (k - 1) i (by simpa using h)
    have e : nth (m :: r) (i + 1) = nth r i := rfl
    rw [List.take_succ_cons, List.take_succ_cons, sideT, sideT, ih, e, ← List.append_assoc]
    congr 2
    rw [Bool.eq_iff_iff]
    simp
    omega

theorem msgT_len {m : Msg} {n : Nat} (h : m.sm n) : (msgT m).length ≤ 2 * n + 42 := by
  obtain ⟨h1, h2, h3⟩ := h
  unfold msgT
  simp only [h1, h2, Bool.and_self, if_true]
  simp [inS] at h1 h2
  have a1 := decS_len20 (n := m.stream.toNat) (by omega)
  have a2 := decS_len20 (n := m.ssn.toNat) (by omega)
  have hl := hexS_len m.text
  cases m.loose <;> simp <;> omega

theorem lineM_len {name : List UInt8} {m : Msg} {n : Nat} (h : m.sm n) (ok : Bool) : (lineM name m ok).length ≤ name.length + 2 * n + 50 := by
  have := msgT_len h
  unfold lineM
  cases ok <;> simp [okW] <;> omega

theorem sideT_len {name : List UInt8} {n : Nat} : ∀ (l : List Msg) (k : Nat), (∀ m ∈ l, m.sm n) → (sideT name k l).length ≤ l.length * (name.length + 2 * n + 50)
  | [], _, _ => by simp [sideT]
  | m :: r, k, h => by
    have h1 := lineM_len (name := name) (h m (List.mem_cons_self ..)) (decide (0 < k))
    have h2 := sideT_len (name := name) r (k - 1) (fun x hx => h x (List.mem_cons_of_mem _ hx))
    simp only [sideT, List.length_append, List.length_cons, Nat.add_mul]
    omega

def stateWs : List (List UInt8) := [[110, 101, 119], [105, 110, 105, 116], [105, 110, 105, 116, 97, 99, 107], [99, 111, 111, 107, 105, 101], [111, 112, 101, 110], [115, 104, 117, 116], [115, 104, 117, 116, 97, 99, 107], [111, 118, 101, 114]]

def headT (x : Assoc) : List UInt8 := [102, 114, 111, 109, 32] ++ decS x.src.toNat ++ [32, 116, 111, 32] ++ decS x.dst.toNat ++ [32] ++ nth stateWs x.state.toNat ++ [10]
def sideX (name : List UInt8) (s : Side) : List UInt8 := sideT name (saidF (s.sent.take s.acked.toNat) []).length (saidF s.sent [])
def assocT (x : Assoc) : List UInt8 := headT x ++ sideX [97] x.a ++ sideX [98] x.b
def listT (l : List Assoc) : List UInt8 := l.flatMap assocT
def recT (m : Monitor) : List UInt8 := [114, 101, 99, 111, 114, 100, 115, 32] ++ decS m.records.toNat ++ [10]
def endT (m : Monitor) : List UInt8 := [102, 111, 117, 110, 100, 32] ++ decS m.found.length ++ [10] ++ textF m.found
def reportT (m : Monitor) : List UInt8 := if m.ok then recT m ++ listT m.list ++ endT m else []

theorem sideX_len {s : Side} (h : s.ok = true) {name : List UInt8} (hn : name.length ≤ 10) : (sideX name s).length ≤ 8000 := by
  have h1 := side_msgs h s.sent.length
  rw [List.take_length] at h1
  have h2 := sideT_len (name := name) _ (saidF (s.sent.take s.acked.toNat) []).length h1.1
  have h3 : (saidF s.sent []).length * (name.length + 2 * 240 + 50) ≤ 12 * (name.length + 2 * 240 + 50) := Nat.mul_le_mul_right _ h1.2
  unfold sideX
  omega

theorem stateW_len (n : Nat) (h : n < 8) : (nth stateWs n).length ≤ 7 := by
  have : ∀ n : Fin 8, (nth stateWs n.val).length ≤ 7 := by decide
  exact this ⟨n, h⟩

theorem headT_len {x : Assoc} (h : x.ok = true) (h1 : x.src.toNat < 10 ^ 19) (h2 : x.dst.toNat < 10 ^ 19) : (headT x).length ≤ 60 := by
  have a1 := decS_len20 h1
  have a2 := decS_len20 h2
  have hs := Assoc.ok_state h
  have a3 := stateW_len x.state.toNat (by omega)
  unfold headT
  simp
  omega

theorem listT_take {l : List Assoc} {i : Nat} (h : i < l.length) : listT (l.take (i + 1)) = listT (l.take i) ++ assocT (nth l i) := by
  rw [take_nth h]
  simp [listT]
end

end Go.Proofs.YtnhhcfbigjpfeaaDoor
