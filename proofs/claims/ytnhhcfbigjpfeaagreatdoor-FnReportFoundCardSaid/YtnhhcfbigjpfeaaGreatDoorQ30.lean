/-
  The messages of a side in a report: contracts.
  The laws of messages hold.
  Findings as texts by the program; and the laws of findings that speak of their texts.
  The report of a monitor, by the reference and by the program: contracts.
  Monitors that were drawn, and records for them.
  Texts of findings, as lists: what is written can be read, and what is read is what is written.
  What the laws of reports have in common: lines counted, drawn monitors.
-/
import Derived.Test.YtnhhcfbigjpfeaaGreatDoorQ29
import Derived.Test.YtnhhcfbigjpfeaaGreatDoorQ19
import Derived.Test.YtnhhcfbigjpfeaaGreatDoorQ28
namespace Go.Proofs.YtnhhcfbigjpfeaaGreatDoor
set_option linter.all false

section
set_option maxRecDepth 200000
set_option maxHeartbeats 8000000
attribute [-simp] List.getD_eq_getElem?_getD

/-- The text that is open after some parts. -/
def openG : List Part → List UInt8 → List UInt8
  | [], t => t
  | d :: r, t => openG r (if d.last then [] else t ++ d.text)

theorem saidG_snoc : ∀ (l : List Part) (d : Part) (t : List UInt8), saidG (l ++ [d]) t = saidG l t ++ (if d.last then [⟨d.stream, d.ssn, d.loose, openG l t ++ d.text⟩] else [])
  | [], d, t => by
    simp only [List.nil_append, saidG, openG]
  | e :: l, d, t => by
    simp only [List.cons_append, saidG, openG]
    cases e.last
    · simp [saidG_snoc l d]
    · simp [saidG_snoc l d]
theorem openG_snoc : ∀ (l : List Part) (d : Part) (t : List UInt8), openG (l ++ [d]) t = if d.last then [] else openG l t ++ d.text
  | [], d, t => rfl
  | e :: l, d, t => openG_snoc l d _
theorem saidG_len : ∀ (l : List Part) (t : List UInt8), (saidG l t).length ≤ l.length
  | [], t => Nat.le_refl _
  | d :: l, t => by
    simp only [saidG]
    cases d.last
    · have := saidG_len l (t ++ d.text)
      simp; omega
    · have := saidG_len l []
      simp; omega
theorem openG_len : ∀ (l : List Part) (t : List UInt8), (∀ d ∈ l, d.text.length ≤ 20) → (openG l t).length ≤ t.length + 20 * l.length
  | [], t, _ => by simp [openG]
  | d :: l, t, h => by
    have h1 := openG_len l (if d.last then [] else t ++ d.text) (fun e he => h e (List.mem_cons_of_mem _ he))
    have h3 := h d (List.mem_cons_self ..)
    simp only [openG, List.length_cons]
    revert h1
    cases d.last
    · simp; omega
    · simp; omega

theorem l31Said_ok (l : List Part) (hl : l.length ≤ 1000) (ht : ∀ d ∈ l, d.text.length ≤ 20) : Fn Tryz.prog fn_spec_l31Said [psl l] [] (.sl (some 0) 4 ((saidG l []).map mV)) [] := by
  refine Fn.of_go ln_spec_l31Said rfl ?_
  simp [ac_spec_l31Said, psl]
  refine go_loop (fun i : Nat => { env := [(0, psl l), (3, .sl (some 0) 4 ((saidG (l.take i) []).map mV)), (4, .str (openG (l.take i) [])), (5, .int .i64 (i : Nat))], loc := [], box := [], stat := [(0, some (.own (saidG (l.take i) []).length 4))] }) (fun i => i ≤ l.length) (fun i => l.length - i) 0 (by omega) (Weak.of [(0, some 112, 0, 4)] [] (by simp [psl, saidG, openG])) ?_
  intro i hi
  simp [psl]
  refine goTest_dec (fun hlt => ?_) (fun hge => ?_)
  · have hsn := saidG_snoc (l.take i) (nth l i) []
    have hop := openG_snoc (l.take i) (nth l i) []
    rw [← take_nth hlt] at hsn hop
    have h1 := openG_len (l.take i) [] (fun d hd => ht d (List.mem_of_mem_take hd))
    have h2 := saidG_len (l.take i) []
    have h3 := ht _ (nth_mem hlt)
    have h4 : (l.take i).length = i := by simp; omega
    rw [h4] at h1 h2
    simp only [List.length_nil] at h1
    simp [hlt, pt_v]
    generalize openG (l.take i) [] = t at *
    generalize saidG (l.take i) [] = M at *
    generalize nth l i = d at *
    have hm : mV ⟨d.stream, d.ssn, d.loose, t ++ d.text⟩ = .agg [.int .i64 d.stream, .int .i64 d.ssn, .bool d.loose, .str (t ++ d.text)] := rfl
    refine ⟨by omega, ?_⟩
    cases e2 : d.last
    · rw [e2] at hsn hop
      simp at hsn hop
      simp
      exact ⟨by omega, Again.mk (i + 1) hlt (by omega) (Weak.of [(0, some 0, M.length, 4)] [] (by simp [psl, hsn, hop]))⟩
    · rw [e2] at hsn hop
      simp only [if_true] at hsn hop
      simp
      exact ⟨by unfold roomOk; omega, by omega, Again.mk (i + 1) hlt (by omega) (Weak.of [(0, some 0, M.length + 1, 4)] [] (by simp [psl, hsn, hop, hm]))⟩
  · obtain rfl : i = l.length := by omega
    simp
    exact Ends.mk [(0, some 0, (saidG l []).length, 4)] [] (by simp)

/-- The line of a message, as the reference writes it. -/
theorem msg_line {m : Msg} {n : Nat} (h : m.sm n) : msgT m = decS m.stream.toNat ++ [32] ++ (if m.loose then [45] else decS m.ssn.toNat) ++ [32] ++ hexS m.text := by
  unfold msgT
  rw [h.1, h.2.1]
  rfl

theorem l42Side_ok (name : List UInt8) (s : Side) (hn : name.length ≤ 10) (h : s.ok = true) : Fn Tryz.prog fn_spec_l42Side [.str name, s.v] [] (.str (sideX name s)) [] := by
  refine Fn.of_go ln_spec_l42Side rfl ?_
  have hf := Side.ok_first h
  have f1 := l31Said_ok s.sent (by omega) (side_texts h)
  have f2 := l31Said_ok (s.sent.take s.acked.toNat) (by simp; omega) (fun d hd => side_texts h d (List.mem_of_mem_take hd))
  have e1 := said_eq h s.sent.length
  rw [List.take_length] at e1
  have e2 := said_eq h s.acked.toNat
  have m1 := side_msgs h s.sent.length
  rw [List.take_length] at m1
  rw [e1] at f1
  rw [e2] at f2
  simp only [psl, List.map_take] at f1 f2
  simp [ac_spec_l42Side, side_v, psl]
  refine goCall_eq f1 (by simp) ?_
  simp
  refine ⟨by omega, ?_⟩
  refine goCall_eq f2 (by simp) ?_
  simp
  unfold sideX
  generalize saidF s.sent [] = A at *
  generalize (saidF (s.sent.take s.acked.toNat) []).length = k at *
  refine go_loop (fun i : Nat => { env := [(0, .str name), (5, .str (sideT name k (A.take i))), (6, .sl (some 0) 4 (A.map mV)), (7, .int .i64 (k : Nat)), (8, .int .i64 (i : Nat))], loc := [], box := [], stat := [(0, some (.own A.length 4))] }) (fun i => i ≤ A.length) (fun i => A.length - i) 0 (by omega) (Weak.of [(0, some 176, A.length, 4)] [] (by simp [sideT])) ?_
  intro i hi
  simp
  refine goTest_dec (fun hlt => ?_) (fun hge => ?_)
  · have hs := m1.1 _ (nth_mem hlt)
    have hln := sideT_len (name := name) (n := 240) (A.take i) k (fun m hm => m1.1 m (List.mem_of_mem_take hm))
    have hA : (A.take i).length * (name.length + 2 * 240 + 50) ≤ 12 * (name.length + 2 * 240 + 50) := Nat.mul_le_mul_right _ (by simp; omega)
    have ht := sideT_take name A k i hlt
    have hml := msgT_len hs
    have f3 := l42Message_ok (nth A i) hs.1 hs.2.1 (by have := hs.2.2; omega)
    rw [← msg_line hs] at f3
    generalize sideT name k (A.take i) = T at *
    simp only [mV] at f3
    simp [hlt, mV]
    generalize nth A i = m at *
    refine ⟨by omega, by omega, goCall_eq f3 (by simp) ?_⟩
    simp
    refine ⟨by omega, goTest_dec (fun hk => ?_) (fun hk => ?_)⟩
    · simp
      refine ⟨by omega, by omega, by omega, .mk (i + 1) hlt (by omega) (Weak.of [(0, some 0, A.length, 4)] [] (by simp [ht, lineM, hk, okW]))⟩
    · simp
      refine ⟨by omega, by omega, .mk (i + 1) hlt (by omega) (Weak.of [(0, some 0, A.length, 4)] [] (by simp [ht, lineM, hk]))⟩
  · obtain rfl : i = A.length := by omega
    simp
    exact Ends.mk [] [] (by simp)

theorem sideLines_ok (name : List UInt8) (s : Side) (l : List UInt8) (hn : name.length ≤ 10) (h : s.ok = true) (hl : l.length ≤ 100000000) :
    Fn Tryz.prog fn_impl_sideLines [.ptr 1000 0, .str name, s.v] [[.ptr 1000 0, .bb 5 0 l]] (.tup []) [[.ptr 1000 0, .bb 5 0 (l ++ sideX name s)]] := by
  refine Fn.of_go ln_impl_sideLines rfl ?_
  have hb := Side.ok_bd h
  have f1 := SideKnown_ok s hb h
  have f2 := SideSaid_ok s hb h
  have e1 : saidS s = saidF s.sent [] := by unfold saidS; rw [if_pos h]
  have e2 : knownS s = saidF (s.sent.take s.acked.toNat) [] := by unfold knownS; rw [if_pos h]
  have m1 := side_msgs h s.sent.length
  rw [List.take_length] at m1
  rw [e2] at f1
  rw [e1] at f2
  simp only [side_v, psl] at f1 f2
  simp [ac_impl_sideLines, side_v, psl]
  refine goCall_eq f1 (by simp) ?_
  simp
  refine goCall_eq f2 (by simp) ?_
  simp
  unfold sideX
  generalize saidF s.sent [] = A at *
  generalize saidF (s.sent.take s.acked.toNat) [] = Kn at *
  refine go_loop (fun i : Nat => { env := [(0, .ptr 1000 0), (1, .str name), (6, .int .i64 (Kn.length : Nat)), (13, .sl none 4 (A.map mV)), (14, .int .i64 (A.length : Nat)), (15, .int .i64 (i : Nat))], loc := [], box := [(1000, [.ptr 1000 0, .bb 5 0 (l ++ sideT name Kn.length (A.take i))])], stat := [(0, some (.own (l ++ sideT name Kn.length (A.take i)).length 1))] }) (fun i => i ≤ A.length) (fun i => A.length - i) 0 (by omega) (Weak.of [(0, some 0, l.length, 1)] [(1000, 1000)] (by simp [sideT])) ?_
  intro i hi
  simp
  refine goTest_dec (fun hlt => ?_) (fun hge => ?_)
  · have hs := m1.1 _ (nth_mem hlt)
    have hln := sideT_len (name := name) (n := 240) (A.take i) Kn.length (fun m hm => m1.1 m (List.mem_of_mem_take hm))
    have hA : (A.take i).length * (name.length + 2 * 240 + 50) ≤ 12 * (name.length + 2 * 240 + 50) := Nat.mul_le_mul_right _ (by simp; omega)
    have ht := sideT_take name A Kn.length i hlt
    have hml := msgT_len hs
    have f3 := impl_MessageText_ok (nth A i) (by have := hs.2.2; omega)
    generalize sideT name Kn.length (A.take i) = T at *
    simp only [mV] at f3
    simp [hlt, mV]
    generalize nth A i = m at *
    refine ⟨by omega, goCall_eq f3 (by simp) ?_⟩
    simp
    refine ⟨by omega, ?_⟩
    have w1 := write_used_ok (l ++ T) (name ++ [32] ++ msgT m) (by simp; omega)
    simp at w1
    refine goCall_gen [(0, some 0, l.length + T.length, 1)] [(1000, 1000)] [] [] none w1 (by simp) ?_
    simp
    refine goTest_dec (fun hk => ?_) (fun hk => ?_)
    · have w2 := write_used_ok (l ++ (T ++ (name ++ 32 :: msgT m))) [32, 111, 107] (by simp; omega)
      have w3 := write_used_ok (l ++ (T ++ (name ++ 32 :: (msgT m ++ [32, 111, 107])))) [10] (by simp; omega)
      simp at w2 w3
      simp
      refine goCall_gen [(0, some 416, l.length + (T.length + (name.length + ((msgT m).length + 1))), 1)] [(1000, 1000)] [] [] none w2 (by simp) ?_
      simp
      refine goCall_gen [(0, some 496, l.length + (T.length + (name.length + ((msgT m).length + 3 + 1))), 1)] [(1000, 1000)] [] [] none w3 (by simp) ?_
      simp
      exact ⟨by omega, .mk (i + 1) hlt (by omega) (Weak.of [(0, some 528, l.length + (T.length + (name.length + ((msgT m).length + 3 + 1 + 1))), 1)] [(1000, 1000)] (by simp [ht, lineM, hk, okW]))⟩
    · have w3 := write_used_ok (l ++ (T ++ (name ++ 32 :: msgT m))) [10] (by simp; omega)
      simp at w3
      simp
      refine goCall_gen [(0, some 416, l.length + (T.length + (name.length + ((msgT m).length + 1))), 1)] [(1000, 1000)] [] [] none w3 (by simp) ?_
      simp
      exact ⟨by omega, .mk (i + 1) hlt (by omega) (Weak.of [(0, some 528, l.length + (T.length + (name.length + ((msgT m).length + 1 + 1))), 1)] [(1000, 1000)] (by simp [ht, lineM, hk]))⟩
  · obtain rfl : i = A.length := by omega
    simp
    exact Ends.mk [(0, some 0, (l ++ sideT name Kn.length A).length, 1)] [(1000, 1000)] (by simp)
end

section
set_option maxRecDepth 20000
attribute [-simp] List.getD_eq_getElem?_getD
end

section
set_option maxRecDepth 20000
attribute [-simp] List.getD_eq_getElem?_getD

theorem impl_FindingsText_ok (l : List (Int × Int)) (hl : l.length ≤ 1100000) : Fn Tryz.prog fn_impl_FindingsText [fsl l] [] (.str (ftext l)) [] := by
  refine Fn.of_go ln_impl_FindingsText rfl ?_
  simp [ac_impl_FindingsText, fsl]
  refine goCall_eq (foundOk_ok l 60 (by omega)) (by simp [fsl]) ?_
  simp
  refine goTest_bool (fun hv => ?_) (fun hv => ?_)
  rotate_left
  · simp [hv]
    exact Ends.mk [] [] (by simp [ftext, hv])
  simp [hv]
  have hb := fsOk_all hv
  refine go_loop (fun i => { env := [(9, fsl l), (10, .int .i64 (l.length : Nat)), (3, .str (textF (l.take i))), (11, .int .i64 (i : Nat))], loc := [], box := [], stat := [] }) (fun i => i ≤ l.length) (fun i => l.length - i) 0 (by omega) (Weak.of [] [] (by simp [fsl, textF])) ?_
  intro i hi
  simp [fsl]
  refine goTest_dec (fun hlt => ?_) (fun hge => ?_)
  · have h1 := fOk_range (hb _ (nth_mem hlt))
    have h3 := textF_len (l := l.take i) fun f hf => by have := fOk_range (hb f (List.mem_of_mem_take hf)); omega
    simp at h3
    have hsn := textF_snoc hlt
    obtain ⟨a, ha⟩ := Int.eq_ofNat_of_zero_le h1.1.1
    obtain ⟨b, hb'⟩ := Int.eq_ofNat_of_zero_le h1.2.1
    have a1 := decS_len20 (n := a) (by omega)
    have a2 := decS_len20 (n := b) (by omega)
    have i1 := Itoa_ok (a : Int) (by omega) (by omega)
    have i2 := Itoa_ok (b : Int) (by omega) (by omega)
    rw [itoa_dec] at i1 i2
    simp [hlt, fV]
    rw [ha]
    refine goDCall_eq i1 (by simp) (by simp) ?_
    simp
    rw [hb']
    refine ⟨by omega, goDCall_eq i2 (by simp) (by simp) ?_⟩
    simp
    exact ⟨by omega, by omega, by omega, by omega, .mk (i + 1) hlt (by omega) (Weak.of [] [] (by simp [fsl, hsn, lineT, ha, hb']))⟩
  · obtain rfl : i = l.length := by omega
    simp
    exact Ends.mk [] [] (by simp [ftext, hv])

end

section
set_option maxRecDepth 200000
set_option maxHeartbeats 8000000
attribute [-simp] List.getD_eq_getElem?_getD

theorem fsOk_60 {n : Int} {l : List (Int × Int)} (hn : n ≤ 60) (h : fsOk n l = true) : fsOk 60 l = true := by
  unfold fsOk at h ⊢
  rw [allTo_iff] at h ⊢
  intro i hi
  have := h i hi
  simp only [fsP, fOk, inB, Bool.and_eq_true, Bool.or_eq_true, decide_eq_true_eq] at this ⊢
  refine ⟨⟨?_, this.1.2⟩, this.2⟩
  omega

theorem state_word (n : Nat) (h : n < 8) : [V.str [110, 101, 119], V.str [105, 110, 105, 116], V.str [105, 110, 105, 116, 97, 99, 107], V.str [99, 111, 111, 107, 105, 101], V.str [111, 112, 101, 110], V.str [115, 104, 117, 116], V.str [115, 104, 117, 116, 97, 99, 107], V.str [111, 118, 101, 114]].getD n .undef = .str (nth stateWs n) := by
  match n, h with
  | 0, _ => rfl
  | 1, _ => rfl
  | 2, _ => rfl
  | 3, _ => rfl
  | 4, _ => rfl
  | 5, _ => rfl
  | 6, _ => rfl
  | 7, _ => rfl

theorem assoc_facts {x : Assoc} (h : x.ok = true) : (1 ≤ x.src ∧ x.src ≤ 65535) ∧ (1 ≤ x.dst ∧ x.dst ≤ 65535) ∧ (0 ≤ x.state ∧ x.state ≤ 7) ∧ x.a.ok = true ∧ x.b.ok = true := by
  unfold Assoc.ok at h
  simp only [inB, Bool.and_eq_true, decide_eq_true_eq] at h
  obtain ⟨⟨⟨⟨⟨⟨⟨⟨⟨h1, h2⟩, h3⟩, h4⟩, h5⟩, h6⟩, h7⟩, h8⟩, h9⟩, h10⟩ := h
  exact ⟨by omega, by omega, by omega, h5, h6⟩

theorem assocT_len {x : Assoc} (h : x.ok = true) : (assocT x).length ≤ 16100 := by
  obtain ⟨h1, h2, h3, h4, h5⟩ := assoc_facts h
  have a1 := headT_len h (by omega) (by omega)
  have a2 := sideX_len h4 (name := [97]) (by simp)
  have a3 := sideX_len h5 (name := [98]) (by simp)
  unfold assocT
  simp
  omega

theorem listT_len : ∀ {l : List Assoc}, (∀ x ∈ l, x.ok = true) → (listT l).length ≤ 16100 * l.length
  | [], _ => by simp [listT]
  | x :: r, h => by
    have h1 := assocT_len (h x (List.mem_cons_self ..))
    have h2 := listT_len (l := r) fun y hy => h y (List.mem_cons_of_mem _ hy)
    have e : listT (x :: r) = assocT x ++ listT r := by simp [listT]
    rw [e, List.length_append, List.length_cons]
    omega

theorem spec_ReportText_ok (m : Monitor) (hm : m.bd) : Fn Tryz.prog fn_spec_ReportText [m.v] [] (.str (reportT m)) [] := by
  refine Fn.of_go ln_spec_ReportText rfl ?_
  have f1 := spec_MonitorValid_ok m hm
  simp only [mon_v] at f1
  simp [ac_spec_ReportText, mon_v]
  refine goCall_eq f1 (by simp) ?_
  cases hok : m.ok
  · simp
    exact Ends.mk [] [] (by simp [reportT, hok])
  have mo := mon_iff.1 hok
  have hrec := mo.recs
  obtain ⟨rc, hrc⟩ := Int.eq_ofNat_of_zero_le hrec.1
  have f2 := decPos_ok rc (by omega) (by omega)
  have a1 := decS_len20 (n := rc) (by omega)
  have hl3 := mo.len
  simp
  rw [hrc]
  refine goCall_eq f2 (by simp) ?_
  simp
  refine ⟨by omega, by omega, ?_⟩
  have er : recT m = [114, 101, 99, 111, 114, 100, 115, 32] ++ decS rc ++ [10] := by unfold recT; rw [hrc]; rfl
  have erl : (recT m).length ≤ 30 := by rw [er]; simp; omega
  refine go_loop (fun i : Nat => { env := [(1, .ptr 1 0), (3, .str (recT m ++ listT (m.list.take i))), (4, .int .i64 (i : Nat))], loc := [], box := [(1, m.cells)], stat := [] }) (fun i => i ≤ m.list.length) (fun i => m.list.length - i) 0 (by omega) (Weak.of [] [(1, 1)] (by simp [Monitor.cells, fsl, er, listT, hrc])) ?_
  intro i hi
  simp [Monitor.cells, fsl]
  refine goTest_dec (fun hlt => ?_) (fun hge => ?_)
  · have hx := (mo.each _ (nth_mem hlt)).1
    obtain ⟨h1, h2, h3, h4, h5⟩ := assoc_facts hx
    have ht := listT_take hlt
    have hll := listT_len (l := m.list.take i) (fun x hx => (mo.each x (List.mem_of_mem_take hx)).1)
    have hll2 : 16100 * (m.list.take i).length ≤ 16100 * 3 := Nat.mul_le_mul_left _ (by simp; omega)
    have hhd := headT_len hx (by omega) (by omega)
    have hsa := sideX_len h4 (name := [97]) (by simp)
    have hsb := sideX_len h5 (name := [98]) (by simp)
    have f3 := l42Side_ok [97] (nth m.list i).a (by simp) h4
    have f4 := l42Side_ok [98] (nth m.list i).b (by simp) h5
    generalize listT (m.list.take i) = T at *
    have hw := state_word (nth m.list i).state.toNat (by omega)
    have hwl := stateW_len (nth m.list i).state.toNat (by omega)
    have hst : (nth m.list i).state < 8 := by omega
    simp at hw
    simp [hlt, assoc_v, hw, h3.1, hst]
    simp only [side_v] at f3 f4
    generalize nth m.list i = x at *
    obtain ⟨sa, hsr⟩ := Int.eq_ofNat_of_zero_le (show (0 : Int) ≤ x.src by omega)
    obtain ⟨sb, hds⟩ := Int.eq_ofNat_of_zero_le (show (0 : Int) ≤ x.dst by omega)
    have b1 := decS_len20 (n := sa) (by omega)
    have b2 := decS_len20 (n := sb) (by omega)
    have eh : assocT x = [102, 114, 111, 109, 32] ++ decS sa ++ [32, 116, 111, 32] ++ decS sb ++ [32] ++ nth stateWs x.state.toNat ++ [10] ++ sideX [97] x.a ++ sideX [98] x.b := by
      unfold assocT headT
      rw [hsr, hds]
      simp
    rw [hsr, hds]
    refine ⟨by omega, goDCall_eq (decPos_ok sa (by omega) (by omega)) (by simp) (by simp) ?_⟩
    simp
    refine ⟨by omega, by omega, goDCall_eq (decPos_ok sb (by omega) (by omega)) (by simp) (by simp) ?_⟩
    simp
    refine ⟨by omega, by omega, by omega, by omega, goDCall_eq f3 (by simp) (by simp) ?_⟩
    simp
    refine ⟨by omega, goDCall_eq f4 (by simp) (by simp) ?_⟩
    simp
    exact ⟨by omega, by omega, .mk (i + 1) hlt (by omega) (Weak.of [] [(1, 1)] (by simp [Monitor.cells, fsl, ht, eh]))⟩
  · obtain rfl : i = m.list.length := by omega
    have hll := listT_len (l := m.list) (fun x hx => (mo.each x hx).1)
    have hff := hm.found
    have c1 := decPos_ok m.found.length (by omega) (by omega)
    have c2 := decS_len20 (n := m.found.length) (by omega)
    have hfo := fsOk_all mo.found
    have c3 := l42Text_ok m.found (by omega) (fun f hf => by have := fOk_range (hfo f hf); omega)
    have c4 := textF_len (l := m.found) fun f hf => by have := fOk_range (hfo f hf); omega
    simp only [fsl] at c3
    simp
    refine ⟨by omega, goDCall_eq c1 (by simp) (by simp) ?_⟩
    simp
    refine ⟨by omega, by omega, goDCall_eq c3 (by simp) (by simp) ?_⟩
    simp
    refine ⟨by omega, ?_⟩
    exact Ends.mk [] [] (by simp [reportT, hok, endT])

theorem impl_ReportText_ok (m : Monitor) (hm : m.bd) : Fn Tryz.prog fn_impl_ReportText [m.v] [] (.str (reportT m)) [] := by
  refine Fn.of_go ln_impl_ReportText rfl ?_
  have f1 := impl_MonitorValid_ok m hm
  simp only [mon_v] at f1
  simp [ac_impl_ReportText, mon_v]
  refine goCall_eq f1 (by simp) ?_
  cases hok : m.ok
  · simp
    exact Ends.mk [] [] (by simp [reportT, hok])
  have mo := mon_iff.1 hok
  have hrec := mo.recs
  obtain ⟨rc, hrc⟩ := Int.eq_ofNat_of_zero_le hrec.1
  have f2 := Itoa_ok (rc : Int) (by omega) (by omega)
  rw [itoa_dec] at f2
  have a1 := decS_len20 (n := rc) (by omega)
  have hl3 := mo.len
  have hal := hm.len
  simp
  rw [hrc]
  refine goCall_eq f2 (by simp) ?_
  simp
  refine ⟨by omega, by omega, ?_⟩
  have er : recT m = [114, 101, 99, 111, 114, 100, 115, 32] ++ decS rc ++ [10] := by unfold recT; rw [hrc]; rfl
  have erl : (recT m).length ≤ 30 := by rw [er]; simp; omega
  have w0 := write_fresh_ok (recT m) (by omega)
  rw [er] at w0
  simp at w0
  refine goCall_gen [] [(1000, 4)] [] [] none w0 (by simp) ?_
  simp
  refine go_loop (fun i : Nat => { env := [(1, .ptr 1 0), (3, .ptr 3 0), (4, .ptr 4 0), (18, .sl none 14 (m.list.map Assoc.v)), (19, .int .i64 (m.list.length : Nat)), (20, .int .i64 (i : Nat))], loc := [], box := [(1, m.cells), (3, stateWs.map V.str), (4, [.ptr 4 0, .bb 5 0 (recT m ++ listT (m.list.take i))])], stat := [(0, some (.own (recT m ++ listT (m.list.take i)).length 1))] }) (fun i => i ≤ m.list.length) (fun i => m.list.length - i) 0 (by omega)
    (Weak.of [(0, some 256, (recT m).length, 1)] [(1, 1), (3, 3), (4, 4)] (by simp [Monitor.cells, fsl, er, listT, hrc, stateWs])) ?_
  intro i hi
  simp [Monitor.cells, fsl, stateWs]
  refine goTest_dec (fun hlt => ?_) (fun hge => ?_)
  · have hx := (mo.each _ (nth_mem hlt)).1
    obtain ⟨h1, h2, h3, h4, h5⟩ := assoc_facts hx
    have ht := listT_take hlt
    have hll := listT_len (l := m.list.take i) (fun x hx => (mo.each x (List.mem_of_mem_take hx)).1)
    have hll2 : 16100 * (m.list.take i).length ≤ 16100 * 3 := Nat.mul_le_mul_left _ (by simp; omega)
    have hhd := headT_len hx (by omega) (by omega)
    have hsa := sideX_len h4 (name := [97]) (by simp)
    have hsb := sideX_len h5 (name := [98]) (by simp)
    have w1 := write_used_ok (recT m ++ listT (m.list.take i)) (headT (nth m.list i)) (by simp; omega)
    have f3 := sideLines_ok [97] (nth m.list i).a (recT m ++ listT (m.list.take i) ++ headT (nth m.list i)) (by simp) h4 (by simp; omega)
    have f4 := sideLines_ok [98] (nth m.list i).b (recT m ++ listT (m.list.take i) ++ headT (nth m.list i) ++ sideX [97] (nth m.list i).a) (by simp) h5 (by simp; omega)
    generalize listT (m.list.take i) = T at *
    have hw := state_word (nth m.list i).state.toNat (by omega)
    have hwl := stateW_len (nth m.list i).state.toNat (by omega)
    have hst : (nth m.list i).state < 8 := by omega
    simp at hw
    simp [hlt, assoc_v, hw, h3.1, hst]
    simp only [side_v] at f3 f4
    generalize nth m.list i = x at *
    obtain ⟨sa, hsr⟩ := Int.eq_ofNat_of_zero_le (show (0 : Int) ≤ x.src by omega)
    obtain ⟨sb, hds⟩ := Int.eq_ofNat_of_zero_le (show (0 : Int) ≤ x.dst by omega)
    have b1 := decS_len20 (n := sa) (by omega)
    have b2 := decS_len20 (n := sb) (by omega)
    have i1 := Itoa_ok (sa : Int) (by omega) (by omega)
    have i2 := Itoa_ok (sb : Int) (by omega) (by omega)
    rw [itoa_dec] at i1 i2
    have eh : headT x = [102, 114, 111, 109, 32] ++ decS sa ++ [32, 116, 111, 32] ++ decS sb ++ [32] ++ nth stateWs x.state.toNat ++ [10] := by
      unfold headT
      rw [hsr, hds]
      simp
    have ea : assocT x = headT x ++ sideX [97] x.a ++ sideX [98] x.b := rfl
    rw [hsr, hds]
    refine goDCall_eq i1 (by simp) (by simp) ?_
    simp
    refine ⟨by omega, by omega, goDCall_eq i2 (by simp) (by simp) ?_⟩
    simp [hw, h3.1, hst]
    refine ⟨by omega, by omega, by omega, by omega, by omega, ?_⟩
    rw [eh] at w1 f3 f4
    simp at w1 f3 f4
    refine goCall_gen [(0, some 0, (recT m ++ T).length, 1)] [(1000, 4)] [] [] none w1 (by simp) ?_
    simp
    refine goCall_gen [(0, some 640, (recT m ++ T ++ headT x).length, 1)] [(1000, 4)] [] [] none f3 (by simp [eh]) ?_
    simp
    refine goCall_gen [(0, some 688, (recT m ++ T ++ headT x ++ sideX [97] x.a).length, 1)] [(1000, 4)] [] [] none f4 (by simp [eh]) ?_
    simp
    exact ⟨by omega, .mk (i + 1) hlt (by omega) (Weak.of [(0, some 736, (recT m ++ T ++ assocT x).length, 1)] [(1, 1), (3, 3), (4, 4)] (by simp [Monitor.cells, fsl, ht, ea, eh, stateWs]))⟩
  · obtain rfl : i = m.list.length := by omega
    have hll := listT_len (l := m.list) (fun x hx => (mo.each x hx).1)
    have hff := hm.found
    have c1 := Itoa_ok (m.found.length : Int) (by omega) (by omega)
    rw [itoa_dec] at c1
    have c2 := decS_len20 (n := m.found.length) (by omega)
    have hfo := fsOk_all mo.found
    have c3 := impl_FindingsText_ok m.found (by omega)
    have c4 := textF_len (l := m.found) fun f hf => by have := fOk_range (hfo f hf); omega
    have c5 : ftext m.found = textF m.found := by unfold ftext; rw [if_pos (fsOk_60 (by omega) mo.found)]
    rw [c5] at c3
    simp only [fsl] at c3
    have w1 := write_used_ok (recT m ++ listT m.list) (endT m) (by unfold endT; simp; omega)
    have w2 := string_ok (recT m ++ listT m.list ++ endT m) (by simp [er])
    unfold endT at w1 w2
    simp at w1 w2
    simp
    refine goDCall_eq c1 (by simp) (by simp) ?_
    simp
    refine ⟨by omega, by omega, goDCall_eq c3 (by simp) (by simp) ?_⟩
    simp
    refine ⟨by omega, ?_⟩
    refine goCall_gen [(0, some 0, (recT m ++ listT m.list).length, 1)] [(1000, 4)] [] [] none w1 (by simp) ?_
    simp
    refine goCall_gen [(0, some 928, (recT m ++ listT m.list ++ endT m).length, 1)] [(1000, 4)] [] [] none w2 (by simp [endT]) ?_
    simp
    exact Ends.mk [] [] (by simp [reportT, hok, endT])
end

section
set_option maxRecDepth 200000
set_option maxHeartbeats 16000000
attribute [-simp] List.getD_eq_getElem?_getD

/-- A monitor that was drawn. -/
structure Monitor.dr (m : Monitor) : Prop where
  recs : -1 ≤ m.records ∧ m.records ≤ 61
  len : m.list.length ≤ 10
  each : ∀ x ∈ m.list, x.dr
  found : m.found.length ≤ 3000
theorem Monitor.dr.bd {m : Monitor} (h : m.dr) : m.bd := ⟨by have := h.recs; omega, by have := h.len; omega, fun x hx => (h.each x hx).bd, by have := h.found; omega⟩
theorem Monitor.sm.dr {m : Monitor} (h : m.sm 2000) : m.dr := ⟨by have := h.recs; omega, by have := h.len; omega, fun x hx => Assoc.ok_dr (h.each x hx), by have := h.found; omega⟩

inductive MdR (src : List UInt8) (a k : Int) : V → List (List V) → Prop
  | mk (m : Monitor) (b : Int) (h : m.dr) (hb : a ≤ b ∧ b ≤ a + k) : MdR src a k m.v [[bsl src, .int .i64 b]]

theorem l92Bad_ok (src : List UInt8) (a : Int) (h : 0 ≤ a ∧ a < 4000000) : ∃ R bo, MdR src a 4000 R bo ∧ Fn Tryz.prog fn_spec_l92Bad [.ptr 1000 0] [[bsl src, .int .i64 a]] R bo := by
  refine Fx.of_go ln_spec_l92Bad rfl ?_
  simp [ac_spec_l92Bad, bsl]
  refine goMonitor rfl (by omega) fun m b hm hb => ?_
  have hml := hm.len
  have hmf := hm.found
  have hmr := hm.recs
  have hme : ∀ x ∈ m.list, x.dr := fun x hx => Assoc.ok_dr (hm.each x hx)
  have c1 := l32Copy_ok m (hm.bd (by omega))
  simp only [mon_v, Monitor.own] at c1
  simp [mon_v]
  refine goCall_eq c1 (by simp) ?_
  simp
  refine goPick (n := 14) rfl (by omega) (by omega) fun r1 h1 => ?_
  simp
  refine goTest_dec (fun z0 => ?_) (fun z0 => ?_)
  · simp [z0]
    refine goPick4 rfl (by omega) fun r2 h2 => ?_
    rcases h2 with rfl | rfl | rfl | rfl
    · simp
      exact ⟨_, _, .mk ⟨-1, m.list, m.found⟩ (b + 1 + 1) ⟨by simp, by simp only; omega, hme, by simp only; omega⟩ (by omega), Ends.mk [] [(1000, 1000)] (by simp [bsl, mon_v])⟩
    · simp
      exact ⟨_, _, .mk ⟨0, m.list, m.found⟩ (b + 1 + 1) ⟨by simp, by simp only; omega, hme, by simp only; omega⟩ (by omega), Ends.mk [] [(1000, 1000)] (by simp [bsl, mon_v])⟩
    · simp
      exact ⟨_, _, .mk ⟨60, m.list, m.found⟩ (b + 1 + 1) ⟨by simp, by simp only; omega, hme, by simp only; omega⟩ (by omega), Ends.mk [] [(1000, 1000)] (by simp [bsl, mon_v])⟩
    · simp
      exact ⟨_, _, .mk ⟨61, m.list, m.found⟩ (b + 1 + 1) ⟨by simp, by simp only; omega, hme, by simp only; omega⟩ (by omega), Ends.mk [] [(1000, 1000)] (by simp [bsl, mon_v])⟩
  simp [z0]
  refine goTest_dec (fun z1 => ?_) (fun z1 => ?_)
  · simp [z1]
    obtain ⟨r2, h2, f2⟩ := pickI src (b + 1) 9 (by omega) (by omega)
    simp only [bsl] at f2
    refine goDCall_gen [] [(1000, 1000)] [] [] none f2 (by simp [bsl]) (by simp [bsl]) ?_
    simp
    refine ⟨by omega, ?_⟩
    obtain ⟨r3, h3, f3⟩ := pickI src (b + 1 + 1) 14 (by omega) (by omega)
    simp only [bsl] at f3
    refine goDCall_gen [] [(1000, 1000)] [] [] none f3 (by simp [bsl]) (by simp [bsl]) ?_
    simp
    refine ⟨by omega, by unfold roomOk; omega, ?_⟩
    exact ⟨_, _, .mk ⟨m.records, m.list, m.found ++ [((r2 : Int) - 1, (r3 : Int) - 1)]⟩ (b + 1 + 1 + 1) ⟨by simp only; omega, by simp only; omega, hme, by simp; omega⟩ (by omega), Ends.mk [] [(1000, 1000)] (by simp [bsl, mon_v, fV])⟩
  simp [z1]
  refine goTest_dec (fun z2 => ?_) (fun z2 => ?_)
  · simp [z2]
    refine ⟨⟨fun a _ => rfl, by unfold roomOk; omega⟩, ?_⟩
    exact ⟨_, _, .mk ⟨m.records, m.list ++ m.list, m.found⟩ (b + 1) ⟨by simp only; omega, by simp; omega, by simpa using hme, by simp only; omega⟩ (by omega), Ends.mk [] [(1000, 1000)] (by simp [bsl, mon_v])⟩
  simp [z2]
  refine goTest_dec (fun z3 => ?_) (fun z3 => ?_)
  · simp [z3]
    obtain ⟨_, _, ⟨y, b2, hy, hb2⟩, f2⟩ := l92Wrong_ok src (b + 1) (by omega)
    simp only [bsl, assoc_v] at f2
    refine goDCall_gen [] [(1000, 1000)] [] [] none f2 (by simp [bsl]) (by simp [bsl]) ?_
    simp
    refine ⟨by unfold roomOk; omega, ?_⟩
    have hy2 : ∀ x ∈ m.list ++ [y], x.dr := by
      intro x hx
      rcases List.mem_append.1 hx with q | q
      · exact hme x q
      · rw [List.mem_singleton.1 q]; exact hy
    exact ⟨_, _, .mk ⟨m.records, m.list ++ [y], m.found⟩ b2 ⟨by simp only; omega, by simp; omega, hy2, by simp only; omega⟩ (by omega), Ends.mk [] [(1000, 1000)] (by simp [bsl, mon_v, assoc_v])⟩
  simp [z3]
  exact ⟨_, _, .mk m (b + 1) hm.dr (by omega), Ends.mk [] [(1000, 1000)] (by simp [bsl, mon_v])⟩

/-- A monitor and a text that were drawn. -/
inductive MsR : V → List (List V) → Prop
  | mk (m : Monitor) (s : List UInt8) (hm : m.dr) (hs : s.length ≤ 1000) : MsR (.tup [m.v, .str s]) []
end

section

theorem decS1 {n : Nat} (h : n < 10) : decS n = [UInt8.ofNat (48 + n)] := by rw [decS, if_pos h]
theorem decS2 {n : Nat} (h : 10 ≤ n) (h2 : n < 100) : decS n = [UInt8.ofNat (48 + n / 10), UInt8.ofNat (48 + n % 10)] := by
  rw [decS, if_neg (by omega), decS1 (by omega)]; rfl
theorem decS3 {n : Nat} (h : 100 ≤ n) (h2 : n < 1000) : decS n = [UInt8.ofNat (48 + n / 100), UInt8.ofNat (48 + n / 10 % 10), UInt8.ofNat (48 + n % 10)] := by
  rw [decS, if_neg (by omega), decS2 (by omega) (by omega), Nat.div_div_eq_div_mul]; rfl

theorem u8n {k : Nat} (h : k < 10) : (UInt8.ofNat (48 + k)).toNat = 48 + k := UInt8.toNat_ofNat_of_lt' (by simp [UInt8.size]; omega)

theorem dec_small {n : Nat} (h : n < 1000) : smallOk (decS n) = true ∧ decN (decS n) = n := by
  rcases Nat.lt_or_ge n 10 with h1 | h1
  · rw [decS1 h1]
    have e := u8n h1
    simp [smallOk, dig, decN, e]; omega
  rcases Nat.lt_or_ge n 100 with h2 | h2
  · rw [decS2 h1 h2]
    have e := u8n (k := n / 10) (by omega)
    have e2 := u8n (k := n % 10) (by omega)
    simp [smallOk, dig, decN, e, e2]; omega
  · rw [decS3 h2 h]
    have e := u8n (k := n / 100) (by omega)
    have e2 := u8n (k := n / 10 % 10) (by omega)
    have e3 := u8n (k := n % 10) (by omega)
    simp [smallOk, dig, decN, e, e2, e3]; omega

theorem small_no {s : List UInt8} {c : UInt8} (h : smallOk s = true) (hc : dig c = false) : c ∉ s := fun hm => by
  simp only [smallOk, Bool.and_eq_true, List.all_eq_true] at h
  have := h.2 _ hm
  rw [hc] at this; cases this

def lineU (f : Int × Int) : List UInt8 := decS f.1.toNat ++ 32 :: decS f.2.toNat

theorem lineT_eq (f : Int × Int) : lineT f = lineU f ++ [10] := by simp [lineT, lineU]

theorem lineF_lineU {f : Int × Int} (h1 : 0 ≤ f.1 ∧ f.1 < 1000) (h2 : 0 ≤ f.2 ∧ f.2 < 1000) : lineF (lineU f) = some f ∧ (10 : UInt8) ∉ lineU f := by
  obtain ⟨a1, a2⟩ := dec_small (n := f.1.toNat) (by omega)
  obtain ⟨b1, b2⟩ := dec_small (n := f.2.toNat) (by omega)
  have e : cutAll 32 (lineU f) = [decS f.1.toNat, decS f.2.toNat] := by
    unfold lineU
    rw [cutAll_mid, cutAll_notin (small_no a1 (by decide)), cutAll_notin (small_no b1 (by decide))]
    rfl
  refine ⟨lineF_two.2 ⟨_, _, e, ?_⟩, ?_⟩
  · simp only [numS, a1, b1, a2, b2, if_true]
    exact Prod.ext (by simp; omega) (by simp; omega)
  · have q1 := small_no (c := 10) a1 (by decide)
    have q2 := small_no (c := 10) b1 (by decide)
    simp [lineU, q1, q2]

theorem cut_textF : ∀ {l : List (Int × Int)}, (∀ f ∈ l, (0 ≤ f.1 ∧ f.1 < 1000) ∧ 0 ≤ f.2 ∧ f.2 < 1000) → cutAll 10 (textF l) = l.map lineU ++ [[]] ∧ mapO lineF (l.map lineU) = some l
  | [], _ => ⟨by simp [textF, cutAll], rfl⟩
  | f :: r, h => by
    obtain ⟨i1, i2⟩ := cut_textF (l := r) fun g hg => h g (List.mem_cons_of_mem _ hg)
    obtain ⟨p1, p2⟩ := h f List.mem_cons_self
    obtain ⟨q1, q2⟩ := lineF_lineU p1 p2
    constructor
    · have e : textF (f :: r) = lineU f ++ 10 :: textF r := by simp [textF, lineT_eq]
      rw [e, cutAll_mid, cutAll_notin q2, i1]
      simp
    · simp [mapO, q1, i2]

theorem parse_textF {l : List (Int × Int)} (h : fsOk 60 l = true) : parseF (textF l) = some l := by
  obtain ⟨h1, h2⟩ := cut_textF (l := l) fun f hf => by have := fOk_range (fsOk_all h f hf); omega
  exact parseF_iff.2 ⟨_, h1, h2, h⟩

end

section
set_option maxRecDepth 200000
set_option maxHeartbeats 8000000
attribute [-simp] List.getD_eq_getElem?_getD

theorem decS_no (n : Nat) : (10 : UInt8) ∉ decS n := by
  induction n using Nat.strongRecOn with
  | _ n ih =>
    rw [decS]
    have hd : ∀ k, k < 10 → (10 : UInt8) ≠ UInt8.ofNat (48 + k) := by
      intro k hk e
      have := congrArg UInt8.toNat e
      rw [u8n hk] at this
      simp at this
      omega
    split
    · rename_i h
      simp only [List.mem_singleton]
      exact hd n h
    · rename_i h
      simp only [List.mem_append, List.mem_singleton, not_or]
      exact ⟨ih (n / 10) (by omega), hd _ (by omega)⟩

theorem hexD_no : ∀ n : Fin 16, hexD n.val ≠ 10 := by decide

theorem hexS_no (l : List UInt8) : (10 : UInt8) ∉ hexS l := by
  unfold hexS
  intro h
  obtain ⟨c, _, hc⟩ := List.mem_flatMap.1 h
  have := c.toNat_lt
  simp only [List.mem_cons, List.not_mem_nil, or_false] at hc
  rcases hc with e | e
  · exact hexD_no ⟨c.toNat / 16, by omega⟩ e.symm
  · exact hexD_no ⟨c.toNat % 16, by omega⟩ e.symm

theorem count_no {l : List UInt8} (h : (10 : UInt8) ∉ l) : l.count 10 = 0 := List.count_eq_zero.2 h

theorem msgT_count (m : Msg) : (msgT m).count 10 = 0 := by
  have h1 := count_no (decS_no m.stream.toNat)
  have h2 := count_no (decS_no m.ssn.toNat)
  have h3 := count_no (hexS_no m.text)
  unfold msgT
  split
  · cases m.loose <;> simp [List.count_append, h1, h2, h3, List.count_cons]
  · rfl

theorem lineM_count {name : List UInt8} (hn : name.count 10 = 0) (m : Msg) (b : Bool) : (lineM name m b).count 10 = 1 := by
  unfold lineM
  cases b <;> simp [List.count_append, hn, msgT_count, okW, List.count_cons]

theorem sideT_count {name : List UInt8} (hn : name.count 10 = 0) : ∀ (l : List Msg) (k : Nat), (sideT name k l).count 10 = l.length
  | [], _ => rfl
  | m :: r, k => by
    simp only [sideT, List.count_append, lineM_count hn, sideT_count hn r, List.length_cons]
    omega

theorem stateW_no : ∀ n : Fin 8, (nth stateWs n.val).count 10 = 0 := by decide

theorem headT_count {x : Assoc} (h : x.ok = true) : (headT x).count 10 = 1 := by
  have h1 := count_no (decS_no x.src.toNat)
  have h2 := count_no (decS_no x.dst.toNat)
  have hs := Assoc.ok_state h
  have h3 := stateW_no ⟨x.state.toNat, by omega⟩
  simp only at h3
  unfold headT
  simp [List.count_append, h1, h2, h3, List.count_cons]

def saidN (x : Assoc) : Nat := (saidF x.a.sent []).length + (saidF x.b.sent []).length

theorem assocT_count {x : Assoc} (h : x.ok = true) : (assocT x).count 10 = 1 + saidN x := by
  unfold assocT sideX saidN
  rw [List.count_append, List.count_append, headT_count h, sideT_count (by decide), sideT_count (by decide)]
  omega

def saidL (l : List Assoc) : Nat := (l.map saidN).sum

theorem listT_count : ∀ {l : List Assoc}, (∀ x ∈ l, x.ok = true) → (listT l).count 10 = l.length + saidL l
  | [], _ => rfl
  | x :: r, h => by
    have e : listT (x :: r) = assocT x ++ listT r := by simp [listT]
    have ih := listT_count (l := r) fun y hy => h y (List.mem_cons_of_mem _ hy)
    rw [e, List.count_append, assocT_count (h x (List.mem_cons_self ..)), ih]
    simp [saidL]
    omega

theorem textF_count {l : List (Int × Int)} (h : fsOk 60 l = true) : (textF l).count 10 = l.length := parseF_count (parse_textF h)

theorem recT_count (m : Monitor) : (recT m).count 10 = 1 := by
  have h1 := count_no (decS_no m.records.toNat)
  unfold recT
  simp [List.count_append, h1, List.count_cons]

theorem endT_count {m : Monitor} (h : fsOk 60 m.found = true) : (endT m).count 10 = 1 + m.found.length := by
  have h1 := count_no (decS_no m.found.length)
  unfold endT
  simp [List.count_append, h1, List.count_cons, textF_count h]
  omega

theorem saidL_snoc {l : List Assoc} {i : Nat} (h : i < l.length) : saidL (l.take (i + 1)) = saidL (l.take i) + saidN (nth l i) := by
  rw [take_nth h]
  simp [saidL]

theorem saidL_le : ∀ {l : List Assoc}, (∀ x ∈ l, x.ok = true) → saidL l ≤ 24 * l.length
  | [], _ => by simp [saidL]
  | x :: r, h => by
    have ih := saidL_le (l := r) fun y hy => h y (List.mem_cons_of_mem _ hy)
    obtain ⟨q1, q2, q3, q4, q5⟩ := assoc_facts (h x (List.mem_cons_self ..))
    have a1 := (side_msgs q4 x.a.sent.length).2
    have a2 := (side_msgs q5 x.b.sent.length).2
    rw [List.take_length] at a1 a2
    have e : saidL (x :: r) = saidN x + saidL r := by simp [saidL]
    have en : saidN x = (saidF x.a.sent []).length + (saidF x.b.sent []).length := rfl
    rw [e, en, List.length_cons]
    omega

inductive MonV : V → List (List V) → Prop
  | mk (m : Monitor) (h : m.dr) : MonV m.v []

theorem DrawReportText_ok (code : List UInt8) : ∃ m : Monitor, m.dr ∧ Fn Tryz.prog fn_spec_DrawReportText [bsl code] [] m.v [] := by
  obtain ⟨src, ho⟩ : ∃ s, Fn Tryz.prog fn_spec_l6Open [bsl code] [] (.ptr 1000 0) [[bsl s, .int .i64 0]] := ⟨_, open_ok code⟩
  suffices h : ∃ R bo, MonV R bo ∧ Fn Tryz.prog fn_spec_DrawReportText [bsl code] [] R bo by
    obtain ⟨_, _, ⟨m, h1⟩, f⟩ := h
    exact ⟨m, h1, f⟩
  obtain ⟨_, _, ⟨m, b, hm, hb2⟩, f2⟩ := l92Bad_ok src 0 (by omega)
  refine Fx.of_go ln_spec_DrawReportText rfl ?_
  simp only [bsl, mon_v] at ho f2
  simp [ac_spec_DrawReportText, bsl]
  refine goCall_gen [] [] [] [] (some 1000) ho (by simp [bsl]) ?_
  simp
  refine goCall_gen [] [(1000, 4)] [] [] none f2 (by simp [bsl]) ?_
  simp
  exact ⟨_, _, .mk m hm, Ends.mk [] [] (by simp [mon_v])⟩

theorem reportT_len {m : Monitor} (hm : m.bd) : (reportT m).length ≤ 1000000000 := by
  unfold reportT
  split
  · rename_i hok
    have mo := mon_iff.1 hok
    have hrec := mo.recs
    have hl3 := mo.len
    have hll := listT_len (l := m.list) (fun x hx => (mo.each x hx).1)
    have hff := hm.found
    have a1 := decS_len20 (n := m.records.toNat) (by omega)
    have c2 := decS_len20 (n := m.found.length) (by omega)
    have hfo := fsOk_all mo.found
    have c4 := textF_len (l := m.found) fun f hf => by have := fOk_range (hfo f hf); omega
    unfold recT endT
    simp
    omega
  · simp

theorem drop_app {α : Type} (A B : List α) (k : Nat) : (A ++ B).drop (A.length + k) = B.drop k := by
  rw [List.drop_append, List.drop_eq_nil_of_le (by omega), List.nil_append, Nat.add_sub_cancel_left]
end

end Go.Proofs.YtnhhcfbigjpfeaaGreatDoor
