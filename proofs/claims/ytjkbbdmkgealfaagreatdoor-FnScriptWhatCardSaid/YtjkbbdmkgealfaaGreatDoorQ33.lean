/-
  The report of a monitor, by the reference and by the program: contracts.
  The desk: lines and scripts, plain.
  Scripts, by the reference: contracts.
  Lines, by the program: contracts.
-/
import Derived.Test.YtjkbbdmkgealfaaGreatDoorQ32
import Derived.Test.YtjkbbdmkgealfaaGreatDoorQ31
import Derived.Test.YtjkbbdmkgealfaaGreatDoorQ30
import Derived.Test.YtjkbbdmkgealfaaGreatDoorQ29
namespace Go.Proofs.YtjkbbdmkgealfaaGreatDoor
set_option linter.all false
section
set_option maxRecDepth 200000
set_option maxHeartbeats 8000000
attribute [-simp] List.getD_eq_getElem?_getD
theorem fsOk_60 {n : Int} {l : List (Int × Int)} (hn : n ≤ 60) (h : fsOk n l = true) : fsOk 60 l = true := by
  unfold fsOk at h ⊢
  rw [allTo_iff] at h ⊢
  intro i hi
  have := h i hi
  simp only [fsP, fOk, inB, Bool.and_eq_true, Bool.or_eq_true, decide_eq_true_eq] at this ⊢
  refine ⟨⟨?_, this.1.2⟩, this.2⟩
  omega
theorem state_word (n : Nat) (h : n < 8) : [V.str [110, 101, 119], V.str [105, 110, 105, 116], V.str [105, 110, 105, 116, 97, 99, 107], V.str [99, 111, 111, 107, 105, 101], V.str [111, 112, 101, 110], V.str [115, 104, 117, 116], V.str [115, 104, 117, 116, 97, 99, 107], V.str [111, 118, 101, 114]].getD n .undef = .str (nth stateWs n) := by
  match n, h with
  | 0, _ => rfl
  | 1, _ => rfl
  | 2, _ => rfl
  | 3, _ => rfl
  | 4, _ => rfl
  | 5, _ => rfl
  | 6, _ => rfl
  | 7, _ => rfl
theorem assoc_facts {x : Assoc} (h : x.ok = true) : (1 ≤ x.src ∧ x.src ≤ 65535) ∧ (1 ≤ x.dst ∧ x.dst ≤ 65535) ∧ (0 ≤ x.state ∧ x.state ≤ 7) ∧ x.a.ok = true ∧ x.b.ok = true := by
  unfold Assoc.ok at h
  simp only [inB, Bool.and_eq_true, decide_eq_true_eq] at h
  obtain ⟨⟨⟨⟨⟨⟨⟨⟨⟨h1, h2⟩, h3⟩, h4⟩, h5⟩, h6⟩, h7⟩, h8⟩, h9⟩, h10⟩ := h
  exact ⟨by omega, by omega, by omega, h5, h6⟩
theorem assocT_len {x : Assoc} (h : x.ok = true) : (assocT x).length ≤ 16100 := by
  obtain ⟨h1, h2, h3, h4, h5⟩ := assoc_facts h
  have a1 := headT_len h (by omega) (by omega)
  have a2 := sideX_len h4 (name := [97]) (by simp)
  have a3 := sideX_len h5 (name := [98]) (by simp)
  unfold assocT
  simp
  omega
theorem listT_len : ∀ {l : List Assoc}, (∀ x ∈ l, x.ok = true) → (listT l).length ≤ 16100 * l.length
  | [], _ => by simp [listT]
  | x :: r, h => by
    have h1 := assocT_len (h x (List.mem_cons_self ..))
    have h2 := listT_len (l := r) fun y hy => h y (List.mem_cons_of_mem _ hy)
    have e : listT (x :: r) = assocT x ++ listT r := by simp [listT]
    rw [e, List.length_append, List.length_cons]
    omega
theorem spec_ReportText_ok (m : Monitor) (hm : m.bd) : Fn Tryz.prog fn_spec_ReportText [m.v] [] (.str (reportT m)) [] := by
  refine Fn.of_go ln_spec_ReportText rfl ?_
  have f1 := spec_MonitorValid_ok m hm
  simp only [mon_v] at f1
  simp [ac_spec_ReportText, mon_v]
  refine goCall_eq f1 (by simp) ?_
  cases hok : m.ok
  · simp
    exact Ends.mk [] [] (by simp [reportT, hok])
  have mo := mon_iff.1 hok
  have hrec := mo.recs
  obtain ⟨rc, hrc⟩ := Int.eq_ofNat_of_zero_le hrec.1
  have f2 := decPos_ok rc (by omega) (by omega)
  have a1 := decS_len20 (n := rc) (by omega)
  have hl3 := mo.len
  simp
  rw [hrc]
  refine goCall_eq f2 (by simp) ?_
  simp
  refine ⟨by omega, by omega, ?_⟩
  have er : recT m = [114, 101, 99, 111, 114, 100, 115, 32] ++ decS rc ++ [10] := by unfold recT; rw [hrc]; rfl
  have erl : (recT m).length ≤ 30 := by rw [er]; simp; omega
  refine go_loop (fun i : Nat => { env := [(1, .ptr 1 0), (3, .str (recT m ++ listT (m.list.take i))), (4, .int .i64 (i : Nat))], loc := [], box := [(1, m.cells)], stat := [] }) (fun i => i ≤ m.list.length) (fun i => m.list.length - i) 0 (by omega) (Weak.of [] [(1, 1)] (by simp [Monitor.cells, fsl, er, listT, hrc])) ?_
  intro i hi
  simp [Monitor.cells, fsl]
  refine goTest_dec (fun hlt => ?_) (fun hge => ?_)
  · have hx := (mo.each _ (nth_mem hlt)).1
    obtain ⟨h1, h2, h3, h4, h5⟩ := assoc_facts hx
    have ht := listT_take hlt
    have hll := listT_len (l := m.list.take i) (fun x hx => (mo.each x (List.mem_of_mem_take hx)).1)
    have hll2 : 16100 * (m.list.take i).length ≤ 16100 * 3 := Nat.mul_le_mul_left _ (by simp; omega)
    have hhd := headT_len hx (by omega) (by omega)
    have hsa := sideX_len h4 (name := [97]) (by simp)
    have hsb := sideX_len h5 (name := [98]) (by simp)
    have f3 := l42Side_ok [97] (nth m.list i).a (by simp) h4
    have f4 := l42Side_ok [98] (nth m.list i).b (by simp) h5
    generalize listT (m.list.take i) = T at *
    have hw := state_word (nth m.list i).state.toNat (by omega)
    have hwl := stateW_len (nth m.list i).state.toNat (by omega)
    have hst : (nth m.list i).state < 8 := by omega
    simp at hw
    simp [hlt, assoc_v, hw, h3.1, hst]
    simp only [side_v] at f3 f4
    generalize nth m.list i = x at *
    obtain ⟨sa, hsr⟩ := Int.eq_ofNat_of_zero_le (show (0 : Int) ≤ x.src by omega)
    obtain ⟨sb, hds⟩ := Int.eq_ofNat_of_zero_le (show (0 : Int) ≤ x.dst by omega)
    have b1 := decS_len20 (n := sa) (by omega)
    have b2 := decS_len20 (n := sb) (by omega)
    have eh : assocT x = [102, 114, 111, 109, 32] ++ decS sa ++ [32, 116, 111, 32] ++ decS sb ++ [32] ++ nth stateWs x.state.toNat ++ [10] ++ sideX [97] x.a ++ sideX [98] x.b := by
      unfold assocT headT
      rw [hsr, hds]
      simp
    rw [hsr, hds]
    refine ⟨by omega, goDCall_eq (decPos_ok sa (by omega) (by omega)) (by simp) (by simp) ?_⟩
    simp
    refine ⟨by omega, by omega, goDCall_eq (decPos_ok sb (by omega) (by omega)) (by simp) (by simp) ?_⟩
    simp
    refine ⟨by omega, by omega, by omega, by omega, goDCall_eq f3 (by simp) (by simp) ?_⟩
    simp
    refine ⟨by omega, goDCall_eq f4 (by simp) (by simp) ?_⟩
    simp
    exact ⟨by omega, by omega, .mk (i + 1) hlt (by omega) (Weak.of [] [(1, 1)] (by simp [Monitor.cells, fsl, ht, eh]))⟩
  · obtain rfl : i = m.list.length := by omega
    have hll := listT_len (l := m.list) (fun x hx => (mo.each x hx).1)
    have hff := hm.found
    have c1 := decPos_ok m.found.length (by omega) (by omega)
    have c2 := decS_len20 (n := m.found.length) (by omega)
    have hfo := fsOk_all mo.found
    have c3 := l42Text_ok m.found (by omega) (fun f hf => by have := fOk_range (hfo f hf); omega)
    have c4 := textF_len (l := m.found) fun f hf => by have := fOk_range (hfo f hf); omega
    simp only [fsl] at c3
    simp
    refine ⟨by omega, goDCall_eq c1 (by simp) (by simp) ?_⟩
    simp
    refine ⟨by omega, by omega, goDCall_eq c3 (by simp) (by simp) ?_⟩
    simp
    refine ⟨by omega, ?_⟩
    exact Ends.mk [] [] (by simp [reportT, hok, endT])
theorem impl_ReportText_ok (m : Monitor) (hm : m.bd) : Fn Tryz.prog fn_impl_ReportText [m.v] [] (.str (reportT m)) [] := by
  refine Fn.of_go ln_impl_ReportText rfl ?_
  have f1 := impl_MonitorValid_ok m hm
  simp only [mon_v] at f1
  simp [ac_impl_ReportText, mon_v]
  refine goCall_eq f1 (by simp) ?_
  cases hok : m.ok
  · simp
    exact Ends.mk [] [] (by simp [reportT, hok])
  have mo := mon_iff.1 hok
  have hrec := mo.recs
  obtain ⟨rc, hrc⟩ := Int.eq_ofNat_of_zero_le hrec.1
  have f2 := Itoa_ok (rc : Int) (by omega) (by omega)
  rw [itoa_dec] at f2
  have a1 := decS_len20 (n := rc) (by omega)
  have hl3 := mo.len
  have hal := hm.len
  simp
  rw [hrc]
  refine goCall_eq f2 (by simp) ?_
  simp
  refine ⟨by omega, by omega, ?_⟩
  have er : recT m = [114, 101, 99, 111, 114, 100, 115, 32] ++ decS rc ++ [10] := by unfold recT; rw [hrc]; rfl
  have erl : (recT m).length ≤ 30 := by rw [er]; simp; omega
  have w0 := write_fresh_ok (recT m) (by omega)
  rw [er] at w0
  simp at w0
  refine goCall_gen [] [(1000, 4)] [] [] none w0 (by simp) ?_
  simp
  refine go_loop (fun i : Nat => { env := [(1, .ptr 1 0), (3, .ptr 3 0), (4, .ptr 4 0), (18, .sl none 14 (m.list.map Assoc.v)), (19, .int .i64 (m.list.length : Nat)), (20, .int .i64 (i : Nat))], loc := [], box := [(1, m.cells), (3, stateWs.map V.str), (4, [.ptr 4 0, .bb 5 0 (recT m ++ listT (m.list.take i))])], stat := [(0, some (.own (recT m ++ listT (m.list.take i)).length 1))] }) (fun i => i ≤ m.list.length) (fun i => m.list.length - i) 0 (by omega)
    (Weak.of [(0, some 256, (recT m).length, 1)] [(1, 1), (3, 3), (4, 4)] (by simp [Monitor.cells, fsl, er, listT, hrc, stateWs])) ?_
  intro i hi
  simp [Monitor.cells, fsl, stateWs]
  refine goTest_dec (fun hlt => ?_) (fun hge => ?_)
  · have hx := (mo.each _ (nth_mem hlt)).1
    obtain ⟨h1, h2, h3, h4, h5⟩ := assoc_facts hx
    have ht := listT_take hlt
    have hll := listT_len (l := m.list.take i) (fun x hx => (mo.each x (List.mem_of_mem_take hx)).1)
    have hll2 : 16100 * (m.list.take i).length ≤ 16100 * 3 := Nat.mul_le_mul_left _ (by simp; omega)
    have hhd := headT_len hx (by omega) (by omega)
    have hsa := sideX_len h4 (name := [97]) (by simp)
    have hsb := sideX_len h5 (name := [98]) (by simp)
    have w1 := write_used_ok (recT m ++ listT (m.list.take i)) (headT (nth m.list i)) (by simp; omega)
    have f3 := sideLines_ok [97] (nth m.list i).a (recT m ++ listT (m.list.take i) ++ headT (nth m.list i)) (by simp) h4 (by simp; omega)
    have f4 := sideLines_ok [98] (nth m.list i).b (recT m ++ listT (m.list.take i) ++ headT (nth m.list i) ++ sideX [97] (nth m.list i).a) (by simp) h5 (by simp; omega)
    generalize listT (m.list.take i) = T at *
    have hw := state_word (nth m.list i).state.toNat (by omega)
    have hwl := stateW_len (nth m.list i).state.toNat (by omega)
    have hst : (nth m.list i).state < 8 := by omega
    simp at hw
    simp [hlt, assoc_v, hw, h3.1, hst]
    simp only [side_v] at f3 f4
    generalize nth m.list i = x at *
    obtain ⟨sa, hsr⟩ := Int.eq_ofNat_of_zero_le (show (0 : Int) ≤ x.src by omega)
    obtain ⟨sb, hds⟩ := Int.eq_ofNat_of_zero_le (show (0 : Int) ≤ x.dst by omega)
    have b1 := decS_len20 (n := sa) (by omega)
    have b2 := decS_len20 (n := sb) (by omega)
    have i1 := Itoa_ok (sa : Int) (by omega) (by omega)
    have i2 := Itoa_ok (sb : Int) (by omega) (by omega)
    rw [itoa_dec] at i1 i2
    have eh : headT x = [102, 114, 111, 109, 32] ++ decS sa ++ [32, 116, 111, 32] ++ decS sb ++ [32] ++ nth stateWs x.state.toNat ++ [10] := by
      unfold headT
      rw [hsr, hds]
      simp
    have ea : assocT x = headT x ++ sideX [97] x.a ++ sideX [98] x.b := rfl
    rw [hsr, hds]
    refine goDCall_eq i1 (by simp) (by simp) ?_
    simp
    refine ⟨by omega, by omega, goDCall_eq i2 (by simp) (by simp) ?_⟩
    simp [hw, h3.1, hst]
    refine ⟨by omega, by omega, by omega, by omega, by omega, ?_⟩
    rw [eh] at w1 f3 f4
    simp at w1 f3 f4
    refine goCall_gen [(0, some 0, (recT m ++ T).length, 1)] [(1000, 4)] [] [] none w1 (by simp) ?_
    simp
    refine goCall_gen [(0, some 640, (recT m ++ T ++ headT x).length, 1)] [(1000, 4)] [] [] none f3 (by simp [eh]) ?_
    simp
    refine goCall_gen [(0, some 688, (recT m ++ T ++ headT x ++ sideX [97] x.a).length, 1)] [(1000, 4)] [] [] none f4 (by simp [eh]) ?_
    simp
    exact ⟨by omega, .mk (i + 1) hlt (by omega) (Weak.of [(0, some 736, (recT m ++ T ++ assocT x).length, 1)] [(1, 1), (3, 3), (4, 4)] (by simp [Monitor.cells, fsl, ht, ea, eh, stateWs]))⟩
  · obtain rfl : i = m.list.length := by omega
    have hll := listT_len (l := m.list) (fun x hx => (mo.each x hx).1)
    have hff := hm.found
    have c1 := Itoa_ok (m.found.length : Int) (by omega) (by omega)
    rw [itoa_dec] at c1
    have c2 := decS_len20 (n := m.found.length) (by omega)
    have hfo := fsOk_all mo.found
    have c3 := impl_FindingsText_ok m.found (by omega)
    have c4 := textF_len (l := m.found) fun f hf => by have := fOk_range (hfo f hf); omega
    have c5 : ftext m.found = textF m.found := by unfold ftext; rw [if_pos (fsOk_60 (by omega) mo.found)]
    rw [c5] at c3
    simp only [fsl] at c3
    have w1 := write_used_ok (recT m ++ listT m.list) (endT m) (by unfold endT; simp; omega)
    have w2 := string_ok (recT m ++ listT m.list ++ endT m) (by simp [er])
    unfold endT at w1 w2
    simp at w1 w2
    simp
    refine goDCall_eq c1 (by simp) (by simp) ?_
    simp
    refine ⟨by omega, by omega, goDCall_eq c3 (by simp) (by simp) ?_⟩
    simp
    refine ⟨by omega, ?_⟩
    refine goCall_gen [(0, some 0, (recT m ++ listT m.list).length, 1)] [(1000, 4)] [] [] none w1 (by simp) ?_
    simp
    refine goCall_gen [(0, some 928, (recT m ++ listT m.list ++ endT m).length, 1)] [(1000, 4)] [] [] none w2 (by simp [endT]) ?_
    simp
    exact Ends.mk [] [] (by simp [reportT, hok, endT])
theorem reportT_len {m : Monitor} (hm : m.bd) : (reportT m).length ≤ 1000000000 := by
  unfold reportT
  split
  · rename_i hok
    have mo := mon_iff.1 hok
    have hrec := mo.recs
    have hl3 := mo.len
    have hll := listT_len (l := m.list) (fun x hx => (mo.each x hx).1)
    have hff := hm.found
    have a1 := decS_len20 (n := m.records.toNat) (by omega)
    have c2 := decS_len20 (n := m.found.length) (by omega)
    have hfo := fsOk_all mo.found
    have c4 := textF_len (l := m.found) fun f hf => by have := fOk_range (hfo f hf); omega
    unfold recT endT
    simp
    omega
  · simp
end
section
set_option maxRecDepth 200000
set_option maxHeartbeats 8000000
attribute [-simp] List.getD_eq_getElem?_getD
def tOk : List UInt8 := [111, 107, 10]
def tNo : List UInt8 := [110, 111, 10]
def tWhat : List UInt8 := [119, 104, 97, 116, 10]
def tTalk : List UInt8 := [116, 97, 108, 107]
def tReport : List UInt8 := [114, 101, 112, 111, 114, 116]
def tRecords : List UInt8 := [114, 101, 99, 111, 114, 100, 115, 32]
def tLong : List UInt8 := [116, 111, 111, 32, 108, 111, 110, 103, 10]
def countT (n : Nat) : List UInt8 := tRecords ++ decS n ++ [10]
def sayW (a : List UInt8) : Bool := decide (a = [97]) || decide (a = [98]) || decide (a = [97, 97]) || decide (a = [98, 98])
def chgW (a : List UInt8) : Bool := decide (a = tDrop) || decide (a = tTwice) || decide (a = tCut) || decide (a = tFlip)
def sayT (t : Talk) (a b c : List UInt8) : Talk := { t with says := t.says ++ [⟨decide (a = [98]) || decide (a = [98, 98]), numS b, decide (a.length = 2), c⟩] }
def sayD (s : Desk) (a b c : List UInt8) : Desk × List UInt8 := if (sayT s.talk a b c).ok then (⟨sayT s.talk a b c, s.recs⟩, tOk) else (s, tNo)
def changeD (s : Desk) (w : List UInt8) (k : Int) : Desk × List UInt8 := match changeR s.recs w k with
  | some l => (⟨s.talk, l⟩, tOk)
  | none => (s, tNo)
def talkD (s : Desk) : Desk × List UInt8 := (⟨s.talk, recordsT s.talk 0⟩, countT (recordsT s.talk 0).length)
def lineD (s : Desk) (line : List UInt8) : Desk × List UInt8 := match cutAll 32 line with
  | [a, b, c] => if sayW a then sayD s a b c else (s, tWhat)
  | [a, b] => if chgW a then changeD s a (numS b) else (s, tWhat)
  | [a] => if a = tTalk then talkD s else if a = tReport then (s, reportT (runS s.recs)) else (s, tWhat)
  | _ => (s, tWhat)
def runD : Desk → List (List UInt8) → Desk × List UInt8
  | s, [] => (s, [])
  | s, l :: r => ((runD (lineD s l).1 r).1, (lineD s l).2 ++ (runD (lineD s l).1 r).2)
def desk0 : Desk := ⟨⟨7, 9, ⟨11, 1000, 2, 100⟩, ⟨22, 1000, 1, 65535⟩, 4, []⟩, []⟩
def linesD (text : List UInt8) : List (List UInt8) := (cutAll 10 text).dropLast
def executeD (text : List UInt8) : List UInt8 := if 600 < text.length then tLong else (runD desk0 (linesD text)).2 ++ countT (runD desk0 (linesD text)).1.recs.length
structure Desk.bd (s : Desk) : Prop where
  says : s.talk.says.length ≤ 4
  text : ∀ x ∈ s.talk.says, x.text.length ≤ 600
  recs : s.recs.length ≤ 60
  each : ∀ r ∈ s.recs, r.text.length ≤ 120
theorem desk0_bd : desk0.bd := ⟨by simp [desk0], by simp [desk0], by simp [desk0], by simp [desk0]⟩
theorem Desk.bd.talk_bd {s : Desk} (h : s.bd) : s.talk.bd := ⟨by have := h.says; omega, fun x hx => by have := h.text x hx; omega⟩
theorem sayT_bd {s : Desk} (h : s.bd) {a b c : List UInt8} (hc : c.length ≤ 600) : (sayT s.talk a b c).bd := by
  refine ⟨?_, fun x hx => ?_⟩
  · have := h.says
    simp [sayT]; omega
  · simp only [sayT, List.mem_append, List.mem_singleton] at hx
    rcases hx with hx | rfl
    · have := h.text x hx; omega
    · show c.length ≤ _; omega
theorem numS_small (l : List UInt8) : -1 ≤ numS l ∧ numS l ≤ 1000 := by
  unfold numS
  split
  · rename_i h
    simp [smallOk] at h
    have h1 := dec_lt l 0 (fun c hc => by simpa using h.2 c hc)
    have h2 : 10 ^ l.length ≤ 10 ^ 3 := Nat.pow_le_pow_right (by decide) (by omega)
    have h3 : decN l < 10 ^ l.length * (0 + 1) := h1
    omega
  · omega
theorem changeR_bd {l l' : List Tap} {w : List UInt8} {k : Int} (hl : l.length ≤ 60) (ht : ∀ r ∈ l, r.text.length ≤ 120) (h : changeR l w k = some l') : l'.length ≤ 60 ∧ ∀ r ∈ l', r.text.length ≤ 120 := by
  unfold changeR at h
  split at h
  · cases h
  rename_i h0
  have hi : k.toNat < l.length := by omega
  have hn : nth l k.toNat ∈ l := nth_mem hi
  have hx := ht _ hn
  split at h
  · obtain rfl := Option.some.inj h
    refine ⟨by simp; omega, fun r hr => ?_⟩
    rcases List.mem_append.1 hr with hr | hr
    · exact ht _ (List.mem_of_mem_take hr)
    · exact ht _ (List.mem_of_mem_drop hr)
  split at h
  · split at h
    · cases h
    obtain rfl := Option.some.inj h
    refine ⟨by simp; omega, fun r hr => ?_⟩
    rcases List.mem_append.1 hr with hr | hr
    · rcases List.mem_append.1 hr with hr | hr
      · exact ht _ (List.mem_of_mem_take hr)
      · obtain rfl := List.mem_singleton.1 hr
        exact hx
    · exact ht _ (List.mem_of_mem_drop hr)
  split at h
  · cases h
  split at h
  all_goals
    obtain rfl := Option.some.inj h
    refine ⟨by simpa using hl, fun r hr => ?_⟩
    rcases List.mem_or_eq_of_mem_set hr with hr | rfl
    · exact ht _ hr
  · simp [cutT]; omega
  · simp [flipT]; omega
theorem lineD_bd {s : Desk} (h : s.bd) {line : List UInt8} (hl : line.length ≤ 600) : (lineD s line).1.bd := by
  have hp := cutAll_part 32 line
  unfold lineD
  split
  · rename_i a b c e
    have hc : c.length ≤ line.length := hp c (by rw [e]; simp)
    split
    · unfold sayD
      split
      · rename_i hok
        have q := (talk_c hok).says
        exact ⟨q, fun x hx => by
          simp only [sayT, List.mem_append, List.mem_singleton] at hx
          rcases hx with hx | rfl
          · exact h.text x hx
          · show c.length ≤ _; omega, h.recs, h.each⟩
      · exact h
    · exact h
  · split
    · unfold changeD
      split
      · rename_i l' e
        obtain ⟨q1, q2⟩ := changeR_bd h.recs h.each e
        exact ⟨h.says, h.text, q1, q2⟩
      · exact h
    · exact h
  · split
    · obtain ⟨q1, q2⟩ := records_small s.talk 0
      exact ⟨h.says, h.text, q1, q2⟩
    · split <;> exact h
  · exact h
theorem sayW_four {a : List UInt8} (h : sayW a = true) : a = [97] ∨ a = [98] ∨ a = [97, 97] ∨ a = [98, 98] := by
  simp [sayW] at h
  rcases h with ((h | h) | h) | h <;> simp [h]
theorem chgW_four {a : List UInt8} (h : chgW a = true) : a = [100, 114, 111, 112] ∨ a = [116, 119, 105, 99, 101] ∨ a = [99, 117, 116] ∨ a = [102, 108, 105, 112] := by
  simp only [chgW, Bool.or_eq_true, decide_eq_true_eq] at h
  rcases h with ((h | h) | h) | h
  · exact .inl h
  · exact .inr (.inl h)
  · exact .inr (.inr (.inl h))
  · exact .inr (.inr (.inr h))
end
section
set_option maxRecDepth 200000
set_option maxHeartbeats 8000000
attribute [-simp] List.getD_eq_getElem?_getD
def deskV (t : Talk) (l : List Tap) : V := .agg (t.cells ++ [.sl none 2 (l.map Tap.v)])
theorem l51Talk_ok : Fn Tryz.prog fn_spec_l51Talk [] [] desk0.talk.v [] := by
  refine Fn.of_go ln_spec_l51Talk rfl ?_
  simp [ac_spec_l51Talk]
  exact Ends.mk [] [] (by simp [desk0, talk_v])
theorem l51Say_ok (s : Desk) (h : s.bd) (a b c : List UInt8) (hc : c.length ≤ 600) (ha : sayW a = true) : Fn Tryz.prog fn_spec_l51Say [deskV s.talk s.recs, .sl none 1 [.str a, .str b, .str c]] [] (.tup [deskV (sayD s a b c).1.talk (sayD s a b c).1.recs, .str (sayD s a b c).2]) [] := by
  have hsl := h.says
  have f1 := l42Number_ok b
  have f2 := spec_TalkValid_ok (sayT s.talk a b c) (sayT_bd h hc)
  have hD : sayD s a b c = if (sayT s.talk a b c).ok then (⟨sayT s.talk a b c, s.recs⟩, tOk) else (s, tNo) := rfl
  obtain ⟨T, hT⟩ : ∃ T, T = sayT s.talk a b c := ⟨_, rfl⟩
  have hv : T.v = .agg [.int .i64 s.talk.src, .int .i64 s.talk.dst, .int .i64 s.talk.a.tag, .int .i64 s.talk.a.window, .int .i64 s.talk.a.streams, .int .i64 s.talk.a.tsn, .int .i64 s.talk.b.tag, .int .i64 s.talk.b.window, .int .i64 s.talk.b.streams, .int .i64 s.talk.b.tsn, .int .i64 s.talk.size,
    .sl none 4 (s.talk.says.map Say.v ++ [.agg [.bool (decide (a = [98]) || decide (a = [98, 98])), .int .i64 (numS b), .bool (decide (a.length = 2)), .str c]])] := by
    rw [hT, talk_v]
    simp [sayT, say_v]
  rw [← hT] at f2 hD
  rw [hv] at f2
  have hcl : T.cells = [.int .i64 s.talk.src, .int .i64 s.talk.dst, .int .i64 s.talk.a.tag, .int .i64 s.talk.a.window, .int .i64 s.talk.a.streams, .int .i64 s.talk.a.tsn, .int .i64 s.talk.b.tag, .int .i64 s.talk.b.window, .int .i64 s.talk.b.streams, .int .i64 s.talk.b.tsn, .int .i64 s.talk.size,
    .sl none 4 (s.talk.says.map Say.v ++ [.agg [.bool (decide (a = [98]) || decide (a = [98, 98])), .int .i64 (numS b), .bool (decide (a.length = 2)), .str c]])] := by
    have : T.v = .agg T.cells := rfl
    rw [this] at hv
    injection hv
  obtain ⟨out, hout⟩ : ∃ out, out = (sayD s a b c).2 := ⟨_, rfl⟩
  obtain ⟨bo, hbo⟩ : ∃ bo, bo = deskV (sayD s a b c).1.talk (sayD s a b c).1.recs := ⟨_, rfl⟩
  rw [← hout, ← hbo]
  rw [hD] at hout hbo
  clear hD hT hv
  refine Fn.of_go ln_spec_l51Say rfl ?_
  rcases sayW_four ha with rfl | rfl | rfl | rfl
  all_goals
    simp [ac_spec_l51Say, deskV, Talk.cells, Hello.cells]
    refine goCall_eq f1 (by simp) ?_
    simp
    refine ⟨⟨fun x _ => rfl, by unfold roomOk; omega⟩, by unfold roomOk; omega, ?_⟩
    refine goCall_gen [] [] [] [544] none f2 (by simp) ?_
    cases hk : T.ok
    · rw [hk, if_neg (by simp)] at hout hbo
      simp only at hout hbo
      subst hout
      subst hbo
      simp
      exact Ends.mk [] [] (by simp [deskV, Talk.cells, Hello.cells, tNo])
    · rw [hk, if_pos rfl] at hout hbo
      simp only at hout hbo
      subst hout
      subst hbo
      simp
      exact Ends.mk [] [] (by simp [deskV, hcl, tOk])
theorem l51Change_ok (s : Desk) (h : s.bd) (w : List UInt8) (k : Int) (hk : k ≤ 1000000) (hw : chgW w = true) : Fn Tryz.prog fn_spec_l51Change [deskV s.talk s.recs, .str w, .int .i64 k] [] (.tup [deskV (changeD s w k).1.talk (changeD s w k).1.recs, .str (changeD s w k).2]) [] := by
  have hrl := h.recs
  have hD : changeD s w k = match changeR s.recs w k with
    | some l => (⟨s.talk, l⟩, tOk)
    | none => (s, tNo) := rfl
  obtain ⟨out, hout⟩ : ∃ out, out = (changeD s w k).2 := ⟨_, rfl⟩
  obtain ⟨bo, hbo⟩ : ∃ bo, bo = deskV (changeD s w k).1.talk (changeD s w k).1.recs := ⟨_, rfl⟩
  rw [← hout, ← hbo]
  rw [hD] at hout hbo
  clear hD
  refine Fn.of_go ln_spec_l51Change rfl ?_
  simp [ac_spec_l51Change, deskV, Talk.cells, Hello.cells]
  refine ⟨by omega, ?_⟩
  refine goCall_eq (l6In_ok _ _ _) (by simp) ?_
  cases q : inB k 0 ((s.recs.length : Int) - 1)
  · have e : changeR s.recs w k = none := by
      simp [inB] at q
      unfold changeR
      rw [if_pos (by omega)]
    rw [e] at hout hbo
    simp only at hout hbo
    subst hout
    subst hbo
    simp
    exact Ends.mk [] [] (by simp [deskV, Talk.cells, Hello.cells, tNo])
  simp [inB] at q
  obtain ⟨i, rfl⟩ : ∃ i : Nat, k = i := ⟨k.toNat, by omega⟩
  have hi : i < s.recs.length := by omega
  have hc : changeR s.recs w i = if w = tDrop then some (s.recs.take i ++ s.recs.drop (i + 1))
    else if w = tTwice then (if 60 ≤ s.recs.length then none else some (s.recs.take (i + 1) ++ [nth s.recs i] ++ s.recs.drop (i + 1)))
    else if (nth s.recs i).text.length = 0 then none
    else if w = tCut then some (s.recs.set i ⟨(nth s.recs i).time, cutT (nth s.recs i).text⟩)
    else some (s.recs.set i ⟨(nth s.recs i).time, flipT (nth s.recs i).text⟩) := by
      unfold changeR
      rw [if_neg (by omega)]
      simp
  have hx := h.each _ (nth_mem hi)
  generalize hl : s.recs = l at *
  have hz : ∀ j, ∀ z : V, z ∈ List.drop j (List.map Tap.v l) → z.cells.length = 2 := fun j z hz => by
    obtain ⟨r, _, rfl⟩ := List.mem_map.1 (List.mem_of_mem_drop hz)
    rfl
  have hzt : ∀ j, ∀ z : V, z ∈ List.take j (List.map Tap.v l) → z.cells.length = 2 := fun j z hz => by
    obtain ⟨r, _, rfl⟩ := List.mem_map.1 (List.mem_of_mem_take hz)
    rfl
  have htk : List.take l.length (List.map Tap.v l) = List.map Tap.v l := List.take_of_length_le (by simp)
  have hmin : min i l.length = i := by omega
  have hmin2 : min (i + 1) l.length = i + 1 := by omega
  simp only [V.cells] at hz hzt
  simp [hi, rec_v]
  refine ⟨by unfold roomOk; omega, ?_⟩
  rcases chgW_four hw with rfl | rfl | rfl | rfl
  · rw [hc, if_pos (by decide)] at hout hbo
    simp only at hout hbo
    by_cases ht : (nth l i).text = []
    all_goals
      simp [ht, htk]
      refine ⟨by omega, ⟨hzt _, by unfold roomOk; omega⟩, by omega, by omega, ⟨hz _, by unfold roomOk; omega⟩, ?_⟩
      refine goTest_dec (fun q2 => by omega) (fun q2 => ?_)
      subst hout
      subst hbo
      simp
      exact Ends.mk [] [] (by simp [deskV, Talk.cells, Hello.cells, tOk])
  · rw [hc, if_neg (by decide), if_pos (by decide)] at hout hbo
    by_cases ht : (nth l i).text = []
    all_goals
      simp [ht, htk]
      refine ⟨by omega, by omega, ⟨hzt _, by unfold roomOk; omega⟩, by unfold roomOk; omega, by omega, by omega, ⟨hz _, by unfold roomOk; omega⟩, ?_⟩
      refine goTest_dec (fun q2 => ?_) (fun q2 => ?_)
      · rw [if_pos (by omega)] at hout hbo
        simp only at hout hbo
        subst hout
        subst hbo
        simp
        exact Ends.mk [] [] (by simp [deskV, Talk.cells, Hello.cells, tNo, hl])
      · rw [if_neg (by omega)] at hout hbo
        simp only at hout hbo
        subst hout
        subst hbo
        simp
        exact Ends.mk [] [] (by simp [deskV, Talk.cells, Hello.cells, tOk, rec_v, ht])
  · rw [hc, if_neg (by decide), if_neg (by decide)] at hout hbo
    by_cases ht : (nth l i).text = []
    · rw [if_pos (by simp [ht])] at hout hbo
      simp only at hout hbo
      subst hout
      subst hbo
      simp [ht, htk]
      exact Ends.mk [] [] (by simp [deskV, Talk.cells, Hello.cells, tNo, hl])
    · have hp : ¬ (nth l i).text.length = 0 := fun e => ht (List.eq_nil_of_length_eq_zero e)
      rw [if_neg hp, if_pos (by decide), ] at hout hbo
      simp only at hout hbo
      simp [ht, htk]
      refine ⟨by omega, by omega, by omega, ?_⟩
      rw [setEl_tap hi]
      refine goTest_dec (fun q2 => by simp at q2; omega) (fun q2 => ?_)
      subst hout
      subst hbo
      simp
      exact Ends.mk [] [] (by simp [deskV, Talk.cells, Hello.cells, tOk, cutT])
  · rw [hc, if_neg (by decide), if_neg (by decide)] at hout hbo
    by_cases ht : (nth l i).text = []
    · rw [if_pos (by simp [ht])] at hout hbo
      simp only at hout hbo
      subst hout
      subst hbo
      simp [ht, htk]
      exact Ends.mk [] [] (by simp [deskV, Talk.cells, Hello.cells, tNo, hl])
    · have hp : ¬ (nth l i).text.length = 0 := fun e => ht (List.eq_nil_of_length_eq_zero e)
      rw [if_neg hp, if_neg (by decide)] at hout hbo
      simp only at hout hbo
      simp [ht, htk]
      refine ⟨by omega, by omega, by omega, by omega, by omega, by omega, ?_⟩
      rw [setEl_tap hi]
      refine goTest_dec (fun q2 => by simp at q2; omega) (fun q2 => ?_)
      subst hout
      subst hbo
      simp
      exact Ends.mk [] [] (by simp [deskV, Talk.cells, Hello.cells, tOk, flipT])
end
section
set_option maxRecDepth 200000
set_option maxHeartbeats 8000000
attribute [-simp] List.getD_eq_getElem?_getD
def wordsD (s : Desk) (ws : List (List UInt8)) : Desk × List UInt8 := match ws with
  | [a, b, c] => if sayW a then sayD s a b c else (s, tWhat)
  | [a, b] => if chgW a then changeD s a (numS b) else (s, tWhat)
  | [a] => if a = tTalk then talkD s else if a = tReport then (s, reportT (runS s.recs)) else (s, tWhat)
  | _ => (s, tWhat)
theorem lineD_words (s : Desk) (line : List UInt8) : lineD s line = wordsD s (cutAll 32 line) := rfl
theorem line_say (s : Desk) (h : s.bd) (a b c : List UInt8) (hc : c.length ≤ 600) (ha : sayW a = true) : Fn Tryz.prog fn_impl_desk_line [.ptr 1000 0, .sl none 1 [.str a, .str b, .str c]] [deskC s.talk s.recs] (.str (sayD s a b c).2) [deskC (sayD s a b c).1.talk (sayD s a b c).1.recs] := by
  have hsl := h.says
  have f1 := impl_wordNumber_ok b
  have f2 := impl_TalkValid_ok (sayT s.talk a b c) (sayT_bd h hc)
  have hD : sayD s a b c = if (sayT s.talk a b c).ok then (⟨sayT s.talk a b c, s.recs⟩, tOk) else (s, tNo) := rfl
  obtain ⟨T, hT⟩ : ∃ T, T = sayT s.talk a b c := ⟨_, rfl⟩
  have hv : T.v = .agg [.int .i64 s.talk.src, .int .i64 s.talk.dst, .int .i64 s.talk.a.tag, .int .i64 s.talk.a.window, .int .i64 s.talk.a.streams, .int .i64 s.talk.a.tsn, .int .i64 s.talk.b.tag, .int .i64 s.talk.b.window, .int .i64 s.talk.b.streams, .int .i64 s.talk.b.tsn, .int .i64 s.talk.size,
    .sl none 4 (s.talk.says.map Say.v ++ [.agg [.bool (decide (a = [98]) || decide (a = [98, 98])), .int .i64 (numS b), .bool (decide (a.length = 2)), .str c]])] := by
    rw [hT, talk_v]
    simp [sayT, say_v]
  rw [← hT] at f2 hD
  rw [hv] at f2
  have hcl : T.cells = [.int .i64 s.talk.src, .int .i64 s.talk.dst, .int .i64 s.talk.a.tag, .int .i64 s.talk.a.window, .int .i64 s.talk.a.streams, .int .i64 s.talk.a.tsn, .int .i64 s.talk.b.tag, .int .i64 s.talk.b.window, .int .i64 s.talk.b.streams, .int .i64 s.talk.b.tsn, .int .i64 s.talk.size,
    .sl none 4 (s.talk.says.map Say.v ++ [.agg [.bool (decide (a = [98]) || decide (a = [98, 98])), .int .i64 (numS b), .bool (decide (a.length = 2)), .str c]])] := by
    have : T.v = .agg T.cells := rfl
    rw [this] at hv
    injection hv
  have hz : ∀ z : V, z ∈ s.talk.says.map Say.v → z.cells.length = 4 := fun z hz => by
    obtain ⟨r, _, rfl⟩ := List.mem_map.1 hz
    rfl
  simp only [V.cells] at hz
  obtain ⟨out, hout⟩ : ∃ out, out = (sayD s a b c).2 := ⟨_, rfl⟩
  obtain ⟨bo, hbo⟩ : ∃ bo, bo = deskC (sayD s a b c).1.talk (sayD s a b c).1.recs := ⟨_, rfl⟩
  rw [← hout, ← hbo]
  rw [hD] at hout hbo
  clear hD hT hv
  refine Fn.of_go ln_impl_desk_line rfl ?_
  rcases sayW_four ha with rfl | rfl | rfl | rfl
  all_goals
    simp [ac_impl_desk_line, deskC, Talk.cells, Hello.cells]
    refine goDCall_eq f1 (by simp) (by simp) ?_
    simp
    refine ⟨⟨fun x _ => rfl, by unfold roomOk; omega⟩, by unfold roomOk; omega, ?_⟩
    refine goCall_gen [] [] [] [912] none f2 (by simp) ?_
    cases hk : T.ok
    · rw [hk, if_neg (by simp)] at hout hbo
      simp only at hout hbo
      subst hout
      subst hbo
      simp
      exact Ends.mk [(0, some 0, s.recs.length, 2)] [(1000, 1000)] (by simp [deskC, Talk.cells, Hello.cells, tNo])
    · rw [hk, if_pos rfl] at hout hbo
      simp only at hout hbo
      subst hout
      subst hbo
      simp
      exact Ends.mk [(0, some 0, s.recs.length, 2)] [(1000, 1000)] (by simp [deskC, hcl, tOk])
theorem line_chg (s : Desk) (h : s.bd) (a b : List UInt8) (ha : chgW a = true) : Fn Tryz.prog fn_impl_desk_line [.ptr 1000 0, .sl none 1 [.str a, .str b]] [deskC s.talk s.recs] (.str (changeD s a (numS b)).2) [deskC (changeD s a (numS b)).1.talk (changeD s a (numS b)).1.recs] := by
  have f1 := impl_wordNumber_ok b
  have f2 := change_ok s.talk s.recs a (numS b) (by have := (numS_small b).2; omega) h.recs (fun r hr => by have := h.each r hr; omega)
  have hD : changeD s a (numS b) = match changeR s.recs a (numS b) with
    | some l => (⟨s.talk, l⟩, tOk)
    | none => (s, tNo) := rfl
  obtain ⟨out, hout⟩ : ∃ out, out = (changeD s a (numS b)).2 := ⟨_, rfl⟩
  obtain ⟨bo, hbo⟩ : ∃ bo, bo = deskC (changeD s a (numS b)).1.talk (changeD s a (numS b)).1.recs := ⟨_, rfl⟩
  rw [← hout, ← hbo]
  rw [hD] at hout hbo
  clear hD
  refine Fn.of_go ln_impl_desk_line rfl ?_
  generalize hR : changeR s.recs a (numS b) = R at *
  clear hR
  rcases chgW_four ha with rfl | rfl | rfl | rfl
  all_goals
    simp [deskC, Talk.cells, Hello.cells] at f2
    simp [ac_impl_desk_line, deskC, Talk.cells, Hello.cells]
    refine goDCall_eq f1 (by simp) (by first | simp | trivial | decide) ?_
    simp
    refine goCall_gen [(0, some 0, s.recs.length, 2)] [(1000, 1000)] [] [] none f2 (by simp) ?_
    cases R with
    | none =>
      simp only at hout hbo
      subst hout
      subst hbo
      simp
      exact Ends.mk [(0, some 2448, s.recs.length, 2)] [(1000, 1000)] (by simp [deskC, Talk.cells, Hello.cells, tNo])
    | some l =>
      simp only at hout hbo
      subst hout
      subst hbo
      simp
      exact Ends.mk [(0, some 2448, l.length, 2)] [(1000, 1000)] (by simp [deskC, Talk.cells, Hello.cells, tOk])
theorem line_talk (s : Desk) (h : s.bd) : Fn Tryz.prog fn_impl_desk_line [.ptr 1000 0, .sl none 1 [.str tTalk]] [deskC s.talk s.recs] (.str (talkD s).2) [deskC (talkD s).1.talk (talkD s).1.recs] := by
  have f1 := impl_TalkRecords_own s.talk 0 h.talk_bd (by omega)
  obtain ⟨hrl, _⟩ := records_small s.talk 0
  have hD : talkD s = (⟨s.talk, recordsT s.talk 0⟩, countT (recordsT s.talk 0).length) := rfl
  rw [hD]
  clear hD
  generalize recordsT s.talk 0 = R at *
  have f2 := Itoa_ok R.length (by omega) (by omega)
  rw [itoa_dec] at f2
  simp only [talk_v] at f1
  refine Fn.of_go ln_impl_desk_line rfl ?_
  simp [ac_impl_desk_line, deskC, Talk.cells, Hello.cells, tTalk]
  refine goCall_gen [] [] [] [] none f1 (by simp) ?_
  simp
  refine goCall_eq f2 (by simp) ?_
  simp
  have hd := decS_len20 (n := R.length) (by omega)
  refine ⟨by omega, by omega, ?_⟩
  exact Ends.mk [(0, some 1440, R.length, 2)] [(1000, 1000)] (by simp [countT, tRecords])
theorem impl_MonitorRun_kept (t : Talk) (l : List Tap) (hl : l.length ≤ 1000000) (ht : ∀ r ∈ l, r.text.length ≤ 1000000) : Fn Tryz.prog fn_impl_MonitorRun [.sl (some 0) 2 (l.map Tap.v)] [deskC t l] (runS l).v [deskC t l] := by
  refine Fn.of_go ln_impl_MonitorRun rfl ?_
  have f1 := impl_CaptureValid_ok l hl
  have hrs : runS l = if capOk l then foldM zMonitor l else zMonitor := rfl
  simp only [rsl] at f1
  simp [ac_impl_MonitorRun, deskC, Talk.cells, Hello.cells]
  refine goCall_gen [] [] [] [0] none f1 (by simp) ?_
  cases q : capOk l
  · rw [hrs, q, if_neg (by simp), zMonitor_v]
    simp
    exact Ends.mk [(0, some 0, l.length, 2)] [(1000, 1000)] (by simp)
  rw [hrs, q, if_pos rfl, mon_v]
  clear hrs
  have hlc : l.length ≤ 60 := by simp [capOk] at q; exact q.2
  simp
  refine go_loop (fun i : Nat => { env := [(2, .ptr 2 0), (3, .ptr 3 0), (11, .sl (some 0) 2 (l.map Tap.v)), (12, .int .i64 (l.length : Nat)), (13, .int .i64 (i : Nat))], loc := [], box := [(1000, deskC t l), (2, List.replicate 3 .undef), (3, (foldM zMonitor (l.take i)).cells)], stat := [(0, some (.own l.length 2))] }) (fun i => i ≤ l.length) (fun i => l.length - i) 0 (by omega) (Weak.of [(0, some 0, l.length, 2)] [(1000, 1000), (2, 2), (3, 3)] (by simp [deskC, Talk.cells, Hello.cells, List.replicate, foldM, zMonitor, Monitor.cells, fsl])) ?_
  intro i hi
  simp [deskC, Talk.cells, Hello.cells]
  refine goTest_dec (fun hlt => ?_) (fun hge => ?_)
  · obtain ⟨hb, hf, hr⟩ := fold_bd q hi
    obtain ⟨hk1, hk2⟩ := fold_ok q hi
    have g1 := impl_MonitorStep_ok (foldM zMonitor (l.take i)) (nth l i).text hb hf (ht _ (nth_mem hlt))
    have hs := take_nth hlt
    have hn : monS (foldM zMonitor (l.take i)) (nth l i).text = foldM zMonitor (l.take (i + 1)) := by
      rw [hs, foldM_snoc]
      unfold monS
      rw [mon_iff.2 hk1, hk2, if_pos (by simp; omega)]
    rw [hn] at g1
    simp only [mon_v] at g1
    simp [hlt, rec_v, Monitor.cells, fsl]
    refine goCall_eq g1 (by simp) ?_
    simp
    exact ⟨by omega, Again.mk (i + 1) hlt (by omega) (Weak.of [(0, some 0, l.length, 2)] [(1000, 1000), (2, 2), (3, 3)] (by simp [deskC, Talk.cells, Hello.cells, List.replicate, Monitor.cells, fsl]))⟩
  · obtain rfl : i = l.length := by omega
    simp [Monitor.cells, fsl]
    exact Ends.mk [(0, some 0, l.length, 2)] [(1000, 1000)] (by simp)
theorem goCall_dup {P : Program} {st : St} {k : List It} {Q : AE → St → Prop} {f : Nat} {xs ys : List V} {R : V} {bi bo : List (List V)} {d : AD} {r : List AOp} (M : Mp) (B : Bm) (hf : Fn P f ys bi R bo) (hms : ∀ k, lookS (statM M) k = lookS (argStat ys bi) k)
    (hc : okM st.stat M ∧ okN B ∧ relAs M st.stat (some []) B xs ys ∧ okB M st.stat (some []) st.box B (boxesOf bi) ∧ hasB (boxesOf bi) B ∧ R.okR = true ∧ bo.all (fun b => b.all V.okR1) = true ∧ hasB (boxesOf bo) B ∧ hasN B (boxesOf bo) ∧ freshAll d.num st.stat (resStat R bo))
    (h : go P (.ops r :: k) Q .normal (Delta.apply { val := R.ren B d.num, nb := renBoxes B d.num (boxesOf bo), ns := rsS d.num (resStat R bo) ++ deadM M } st d)) : goCall P f xs d r k Q st := by
  obtain ⟨h2, h4, h6, h7, h8, h10, h11, h12, h13, h15⟩ := hc
  exact .inl ⟨_, _, _, .gen (D := []) (E := []) (nn := none) hf trivial h2 hms h4 h4 h6 h7 h8 (.inl rfl) h10 h11 h12 h13 (fun q => absurd rfl q) h15, by simpa [toImm, withNew] using h⟩
theorem line_report (s : Desk) (h : s.bd) : Fn Tryz.prog fn_impl_desk_line [.ptr 1000 0, .sl none 1 [.str tReport]] [deskC s.talk s.recs] (.str (reportT (runS s.recs))) [deskC s.talk s.recs] := by
  have hrl := h.recs
  have f1 := impl_MonitorRun_kept s.talk s.recs (by omega) (fun r hr => by have := h.each r hr; omega)
  have f2 := impl_ReportText_ok (runS s.recs) ((run_sm s.recs).bd (by omega))
  generalize runS s.recs = m at *
  simp only [mon_v, deskC, Talk.cells, Hello.cells] at f1 f2
  refine Fn.of_go ln_impl_desk_line rfl ?_
  simp [ac_impl_desk_line, deskC, Talk.cells, Hello.cells, tReport]
  refine goCall_dup [(0, some 0, s.recs.length, 2)] [(1000, 1000)] f1 (fun k => by simp) (by simp) ?_
  simp
  refine goCall_eq f2 (by simp) ?_
  simp
  exact Ends.mk [(0, some 1840, s.recs.length, 2)] [(1000, 1000)] (by simp)
theorem line_none (s : Desk) (ws : List (List UInt8)) (h1 : ws ≠ [tReport] ∧ ws ≠ [tTalk]) (h2 : ∀ a b, ws = [a, b] → chgW a = false) (h3 : ∀ a b c, ws = [a, b, c] → sayW a = false) : Fn Tryz.prog fn_impl_desk_line [.ptr 1000 0, .sl none 1 (ws.map V.str)] [deskC s.talk s.recs] (.str tWhat) [deskC s.talk s.recs] := by
  refine Fn.of_go ln_impl_desk_line rfl ?_
  match ws with
  | [] =>
    simp [ac_impl_desk_line, deskC, Talk.cells, Hello.cells]
    exact Ends.mk [(0, some 0, s.recs.length, 2)] [(1000, 1000)] (by simp [tWhat])
  | [a] =>
    have q1 : ¬ a = [114, 101, 112, 111, 114, 116] := fun e => h1.1 (by rw [e]; rfl)
    have q2 : ¬ a = [116, 97, 108, 107] := fun e => h1.2 (by rw [e]; rfl)
    simp [ac_impl_desk_line, deskC, Talk.cells, Hello.cells, q1, q2]
    exact Ends.mk [(0, some 0, s.recs.length, 2)] [(1000, 1000)] (by simp [tWhat])
  | [a, b] =>
    have q := h2 a b rfl
    simp only [chgW, Bool.or_eq_false_iff, decide_eq_false_iff_not] at q
    simp only [tDrop, tTwice, tCut, tFlip] at q
    obtain ⟨⟨⟨q1, q2⟩, q3⟩, q4⟩ := q
    simp [ac_impl_desk_line, deskC, Talk.cells, Hello.cells, q1, q2, q3, q4]
    exact Ends.mk [(0, some 0, s.recs.length, 2)] [(1000, 1000)] (by simp [tWhat])
  | [a, b, c] =>
    have q := h3 a b c rfl
    simp [sayW] at q
    obtain ⟨⟨⟨q1, q2⟩, q3⟩, q4⟩ := q
    simp [ac_impl_desk_line, deskC, Talk.cells, Hello.cells, q1, q2, q3, q4]
    exact Ends.mk [(0, some 0, s.recs.length, 2)] [(1000, 1000)] (by simp [tWhat])
  | a :: b :: c :: e :: r =>
    have q : ¬ (r.length : Int) + 1 + 1 + 1 + 1 = 3 := by omega
    have q1 : ¬ (r.length : Int) + 1 + 1 + 1 + 1 = 2 := by omega
    have q2 : ¬ (r.length : Int) + 1 + 1 + 1 + 1 = 1 := by omega
    simp [ac_impl_desk_line, deskC, Talk.cells, Hello.cells, q, q1, q2]
    exact Ends.mk [(0, some 0, s.recs.length, 2)] [(1000, 1000)] (by simp [tWhat])
theorem wordsD_ok (s : Desk) (h : s.bd) (ws : List (List UInt8)) (hw : ∀ x ∈ ws, x.length ≤ 600) : Fn Tryz.prog fn_impl_desk_line [.ptr 1000 0, .sl none 1 (ws.map V.str)] [deskC s.talk s.recs] (.str (wordsD s ws).2) [deskC (wordsD s ws).1.talk (wordsD s ws).1.recs] := by
  match ws with
  | [] => exact line_none s [] ⟨by simp, by simp⟩ (by simp) (by simp)
  | [a] =>
    by_cases q1 : a = tTalk
    · subst q1; exact line_talk s h
    · by_cases q2 : a = tReport
      · subst q2
        have e : wordsD s [tReport] = (s, reportT (runS s.recs)) := rfl
        rw [e]; exact line_report s h
      · have e : wordsD s [a] = (s, tWhat) := by simp [wordsD, q1, q2]
        rw [e]; exact line_none s [a] ⟨by simpa using q2, by simpa using q1⟩ (by simp) (by simp)
  | [a, b] =>
    cases q : chgW a with
    | true =>
      have e : wordsD s [a, b] = changeD s a (numS b) := by simp [wordsD, q]
      rw [e]; exact line_chg s h a b q
    | false =>
      have e : wordsD s [a, b] = (s, tWhat) := by simp [wordsD, q]
      rw [e]; exact line_none s [a, b] ⟨by simp, by simp⟩ (by rintro x y e; cases e; exact q) (by simp)
  | [a, b, c] =>
    cases q : sayW a with
    | true =>
      have e : wordsD s [a, b, c] = sayD s a b c := by simp [wordsD, q]
      rw [e]; exact line_say s h a b c (hw c (by simp)) q
    | false =>
      have e : wordsD s [a, b, c] = (s, tWhat) := by simp [wordsD, q]
      rw [e]; exact line_none s [a, b, c] ⟨by simp, by simp⟩ (by simp) (by rintro x y z e; cases e; exact q)
  | a :: b :: c :: e :: r => exact line_none s _ ⟨by simp, by simp⟩ (by simp) (by simp)
theorem impl_line_ok (s : Desk) (h : s.bd) (line : List UInt8) (hl : line.length ≤ 600) : Fn Tryz.prog fn_impl_desk_line [.ptr 1000 0, .sl none 1 ((cutAll 32 line).map V.str)] [deskC s.talk s.recs] (.str (lineD s line).2) [deskC (lineD s line).1.talk (lineD s line).1.recs] :=
  wordsD_ok s h _ fun x hx => by have := cutAll_part 32 line x hx; omega
end
end Go.Proofs.YtjkbbdmkgealfaaGreatDoor
