/-
  The laws' own measuring, copying and comparing of monitors: contracts.
  From a contract over abstract values to what a row asks: the start, and arguments that are read.
  The tables that the rows of this seat list.
-/
import Derived.Test.YtnhhcfbigjpfeaaDoorQ26
import Derived.Test.YtnhhcfbigjpfeaaDoorQ25
import Derived.Test.YtnhhcfbigjpfeaaDoorQ18
import Derived.ProofKit
import Derived.HandedShaped
import Derived.Carry
import Derived.ChangeMaps5
import Derived.Test.YtnhhcfbigjpfeaaDoorRows
import Derived.OpenShut
import Derived.Deep.DeepHandedRow
import Derived.Lib.LaidTab
import Derived.LaidSub
namespace Go.Proofs.YtnhhcfbigjpfeaaDoor
set_option linter.all false

section
set_option maxRecDepth 200000
set_option maxHeartbeats 8000000
attribute [-simp] List.getD_eq_getElem?_getD

/-! ## What is left of a budget -/
def szT (d : Part) (n : Int) : Int := if n - d.text.length < 0 then -1 else n - d.text.length
def szL {α : Type} (f : α → Int → Int) : List α → Int → Int
  | [], n => n
  | x :: r, n => if f x n < 0 then -1 else szL f r (f x n)
def szS {α : Type} (f : α → Int → Int) (l : List α) (n : Int) : Int := if n - l.length < 0 then -1 else szL f l (n - l.length)
def cut0 (n : Int) : Int := if n < 0 then -1 else n
def szSd (s : Side) (n : Int) : Int := cut0 (szS szT s.sent n)
def szAs (x : Assoc) (n : Int) : Int := if szSd x.a n < 0 then -1 else cut0 (szSd x.b (szSd x.a n))
def szF (l : List (Int × Int)) (n : Int) : Int := if n - l.length < 0 then -1 else n - l.length
def szMn (m : Monitor) (n : Int) : Int := if szS szAs m.list n < 0 then -1 else cut0 (szF m.found (szS szAs m.list n))

theorem cut0_le (n : Int) : (n < 0 ∧ cut0 n = -1) ∨ (0 ≤ n ∧ cut0 n = n) := by unfold cut0; split <;> omega
theorem szT_le (d : Part) (n : Int) : szT d n ≤ n ∨ szT d n = -1 := by unfold szT; split <;> omega
theorem szL_le {α : Type} {f : α → Int → Int} (hf : ∀ x n, f x n ≤ n ∨ f x n = -1) : ∀ (l : List α) (n : Int), szL f l n ≤ n ∨ szL f l n = -1
  | [], n => .inl (Int.le_refl _)
  | x :: r, n => by
    have h1 := hf x n
    have h2 := szL_le hf r (f x n)
    simp only [szL]
    split <;> omega
theorem szS_le {α : Type} {f : α → Int → Int} (hf : ∀ x n, f x n ≤ n ∨ f x n = -1) (l : List α) (n : Int) : szS f l n ≤ n ∨ szS f l n = -1 := by
  have h := szL_le hf l (n - l.length)
  unfold szS
  split <;> omega
theorem szSd_le (s : Side) (n : Int) : szSd s n ≤ n ∨ szSd s n = -1 := by
  have h1 := szS_le szT_le s.sent n
  have h2 := cut0_le (szS szT s.sent n)
  unfold szSd
  omega
theorem szAs_le (x : Assoc) (n : Int) : szAs x n ≤ n ∨ szAs x n = -1 := by
  have h1 := szSd_le x.a n
  have h2 := szSd_le x.b (szSd x.a n)
  have h3 := cut0_le (szSd x.b (szSd x.a n))
  unfold szAs
  split <;> omega

theorem szL_each {α : Type} {f : α → Int → Int} (hf : ∀ x n, f x n ≤ n ∨ f x n = -1) : ∀ {l : List α} {n : Int}, 0 ≤ szL f l n → ∀ x ∈ l, ∃ m, m ≤ n ∧ 0 ≤ f x m
  | y :: r, n, h, x, hx => by
    simp only [szL] at h
    split at h
    · omega
    · rcases List.mem_cons.1 hx with rfl | hx
      · exact ⟨n, Int.le_refl _, by omega⟩
      · obtain ⟨m, h1, h2⟩ := szL_each hf h x hx
        have := hf y n
        exact ⟨m, by omega, h2⟩
theorem szS_each {α : Type} {f : α → Int → Int} (hf : ∀ x n, f x n ≤ n ∨ f x n = -1) {l : List α} {n : Int} (h : 0 ≤ szS f l n) : (l.length : Int) ≤ n ∧ ∀ x ∈ l, ∃ m, m ≤ n ∧ 0 ≤ f x m := by
  unfold szS at h
  split at h
  · omega
  · refine ⟨by omega, fun x hx => ?_⟩
    obtain ⟨m, h1, h2⟩ := szL_each hf h x hx
    exact ⟨m, by omega, h2⟩
theorem szSd_fat {s : Side} {n : Int} (hn : n ≤ 1048576) (h : 0 ≤ szSd s n) : s.sent.length ≤ 1048576 := by
  have h1 : 0 ≤ szS szT s.sent n := by
    unfold szSd cut0 at h
    split at h <;> omega
  have := (szS_each szT_le h1).1
  omega
structure Monitor.small (m : Monitor) : Prop where
  len : m.list.length ≤ 1048576
  each : ∀ x ∈ m.list, x.a.sent.length ≤ 1048576 ∧ x.b.sent.length ≤ 1048576
  found : m.found.length ≤ 1048576
theorem Monitor.small.fat {m : Monitor} (h : m.small) : m.fat :=
  ⟨by have := h.len; omega, fun x hx => ⟨by have := (h.each x hx).1; unfold Side.fat; omega, by have := (h.each x hx).2; unfold Side.fat; omega⟩, by have := h.found; omega⟩
theorem szMn_small {m : Monitor} (h : 0 ≤ szMn m 1048576) : m.small := by
  unfold szMn at h
  split at h
  · omega
  rename_i h0
  obtain ⟨h1, h2⟩ := szS_each szAs_le (show 0 ≤ szS szAs m.list 1048576 by omega)
  have h3 := szS_le szAs_le m.list 1048576
  refine ⟨by omega, fun x hx => ?_, ?_⟩
  · obtain ⟨k, q1, q2⟩ := h2 x hx
    unfold szAs at q2
    split at q2
    · omega
    · rename_i q3
      have a1 := szSd_le x.a k
      refine ⟨szSd_fat q1 (by omega), szSd_fat (n := szSd x.a k) (by omega) ?_⟩
      unfold cut0 at q2
      split at q2 <;> omega
  · unfold cut0 szF at h
    generalize szS szAs m.list 1048576 = r at *
    by_cases q : r - m.found.length < 0
    · rw [if_pos q] at h; simp at h
    · omega

/-- What an argument's lengths are at most. -/
def Side.raw (s : Side) : Prop := (s.sent.length : Int) ≤ 9223372036854775807 ∧ ∀ d ∈ s.sent, (d.text.length : Int) ≤ 9223372036854775807
structure Monitor.raw (m : Monitor) : Prop where
  len : (m.list.length : Int) ≤ 9223372036854775807
  each : ∀ x ∈ m.list, x.a.raw ∧ x.b.raw
  found : (m.found.length : Int) ≤ 9223372036854775807

theorem szData_ok (d : Part) (n : Int) (hn : 0 ≤ n ∧ n ≤ 1048576) (hl : (d.text.length : Int) ≤ 9223372036854775807) : Fn Tryd.prog fn_laws_szData [d.v, .int .i64 n] [] (.int .i64 (szT d n)) [] := by
  refine Fn.of_go ln_laws_szData rfl ?_
  simp [ac_laws_szData, Part.v, Part.cells]
  refine ⟨by omega, goTest_dec (fun h => ?_) (fun h => ?_)⟩
  · simp [h]
    exact Ends.mk [] [] (by simp [szT, h])
  · simp [h]
    exact Ends.mk [] [] (by simp [szT, h])

theorem szDataS_ok (l : List Part) (n : Int) (hn : 0 ≤ n ∧ n ≤ 1048576) (hl : (l.length : Int) ≤ 9223372036854775807) (hx : ∀ x ∈ l, (x.text.length : Int) ≤ 9223372036854775807) : Fn Tryd.prog fn_laws_szDataS [.sl none 7 (l.map Part.v), .int .i64 n] [] (.int .i64 (szS szT l n)) [] := by
  refine Fn.of_go ln_laws_szDataS rfl ?_
  simp [ac_laws_szDataS]
  refine ⟨by omega, goTest_dec (fun h => ?_) (fun h => ?_)⟩
  · simp [h]
    exact Ends.mk [] [] (by simp [szS, h])
  have e : szS szT l n = szL szT l (n - l.length) := by unfold szS; rw [if_neg h]
  rw [e]
  simp [h]
  refine go_loop (fun x : Nat × Int => { env := [(0, .sl none 7 (l.map Part.v)), (1, .int .i64 x.2), (5, .int .i64 (x.1 : Nat))], loc := [], box := [], stat := [] }) (fun x => x.1 ≤ l.length ∧ 0 ≤ x.2 ∧ x.2 ≤ n ∧ szL szT l (n - l.length) = szL szT (l.drop x.1) x.2) (fun x => l.length - x.1) (0, n - l.length) ⟨by simp, by simp; omega, by simp; omega, by simp⟩ (Weak.of [] [] (by simp)) ?_
  rintro ⟨i, m⟩ ⟨hi, hm1, hm2, hs⟩
  simp only at hi hm1 hm2 hs
  simp
  refine goTest_dec (fun hlt => ?_) (fun hge => ?_)
  · have hd := drop_nth hlt
    have f1 := szData_ok (nth l i) m ⟨hm1, by omega⟩ (hx _ (nth_mem hlt))
    have hle := szT_le (nth l i) m
    rw [hd] at hs
    simp only [szL] at hs
    simp only [Part.v, Part.cells] at f1
    simp [hlt, Part.v, Part.cells]
    generalize szT (nth l i) m = r at *
    refine goCall_eq f1 (by simp) ?_
    simp
    refine goTest_dec (fun h2 => ?_) (fun h2 => ?_)
    · rw [if_pos h2] at hs
      simp [h2]
      exact Ends.mk [] [] (by simp [hs])
    · rw [if_neg h2] at hs
      simp [h2]
      exact ⟨by omega, Again.mk (i + 1, r) ⟨hlt, by simp; omega, by simp; omega, hs⟩ (by simp; omega) (Weak.of [] [] (by simp))⟩
  · obtain rfl : i = l.length := by omega
    rw [List.drop_length] at hs
    simp
    exact Ends.mk [] [] (by simp [hs, szL])

theorem szSide_ok (s : Side) (n : Int) (hn : 0 ≤ n ∧ n ≤ 1048576) (hl : s.raw) : Fn Tryd.prog fn_laws_szSide [s.v, .int .i64 n] [] (.int .i64 (szSd s n)) [] := by
  refine Fn.of_go ln_laws_szSide rfl ?_
  have f1 := szDataS_ok s.sent n hn hl.1 hl.2
  have e : szSd s n = cut0 (szS szT s.sent n) := rfl
  rw [e]
  simp [ac_laws_szSide, side_v]
  refine goCall_eq f1 (by simp) ?_
  generalize szS szT s.sent n = r at *
  simp
  refine goTest_dec (fun h => ?_) (fun h => ?_)
  · simp [h]
    exact Ends.mk [] [] (by simp [cut0, h])
  · simp [h]
    exact Ends.mk [] [] (by simp [cut0, h])

theorem szAssoc_ok (x : Assoc) (n : Int) (hn : 0 ≤ n ∧ n ≤ 1048576) (hl : x.a.raw ∧ x.b.raw) : Fn Tryd.prog fn_laws_szAssoc [x.v, .int .i64 n] [] (.int .i64 (szAs x n)) [] := by
  refine Fn.of_go ln_laws_szAssoc rfl ?_
  have f1 := szSide_ok x.a n hn hl.1
  have hle := szSd_le x.a n
  have e : szAs x n = if szSd x.a n < 0 then -1 else cut0 (szSd x.b (szSd x.a n)) := rfl
  rw [e]
  have f2 := fun h => szSide_ok x.b (szSd x.a n) ⟨h, by omega⟩ hl.2
  simp only [side_v] at f1 f2
  simp [ac_laws_szAssoc, assoc_v]
  refine goCall_eq f1 (by simp) ?_
  generalize szSd x.a n = r at *
  simp
  refine goTest_dec (fun h => ?_) (fun h => ?_)
  · simp [h]
    exact Ends.mk [] [] (by simp [h])
  · simp [h]
    refine goCall_eq (f2 (by omega)) (by simp) ?_
    generalize szSd x.b r = q at *
    simp
    refine goTest_dec (fun h2 => ?_) (fun h2 => ?_)
    · simp [h2]
      exact Ends.mk [] [] (by simp [cut0, h2])
    · simp [h2]
      exact Ends.mk [] [] (by simp [cut0, h2])

theorem szAssocS_ok (l : List Assoc) (n : Int) (hn : 0 ≤ n ∧ n ≤ 1048576) (hl : (l.length : Int) ≤ 9223372036854775807) (hx : ∀ x ∈ l, x.a.raw ∧ x.b.raw) : Fn Tryd.prog fn_laws_szAssocS [.sl none 14 (l.map Assoc.v), .int .i64 n] [] (.int .i64 (szS szAs l n)) [] := by
  refine Fn.of_go ln_laws_szAssocS rfl ?_
  simp [ac_laws_szAssocS]
  refine ⟨by omega, goTest_dec (fun h => ?_) (fun h => ?_)⟩
  · simp [h]
    exact Ends.mk [] [] (by simp [szS, h])
  have e : szS szAs l n = szL szAs l (n - l.length) := by unfold szS; rw [if_neg h]
  rw [e]
  simp [h]
  refine go_loop (fun x : Nat × Int => { env := [(0, .sl none 14 (l.map Assoc.v)), (1, .int .i64 x.2), (5, .int .i64 (x.1 : Nat))], loc := [], box := [], stat := [] }) (fun x => x.1 ≤ l.length ∧ 0 ≤ x.2 ∧ x.2 ≤ n ∧ szL szAs l (n - l.length) = szL szAs (l.drop x.1) x.2) (fun x => l.length - x.1) (0, n - l.length) ⟨by simp, by simp; omega, by simp; omega, by simp⟩ (Weak.of [] [] (by simp)) ?_
  rintro ⟨i, m⟩ ⟨hi, hm1, hm2, hs⟩
  simp only at hi hm1 hm2 hs
  simp
  refine goTest_dec (fun hlt => ?_) (fun hge => ?_)
  · have hd := drop_nth hlt
    have f1 := szAssoc_ok (nth l i) m ⟨hm1, by omega⟩ (hx _ (nth_mem hlt))
    have hle := szAs_le (nth l i) m
    rw [hd] at hs
    simp only [szL] at hs
    simp only [assoc_v] at f1
    simp [hlt, assoc_v]
    generalize szAs (nth l i) m = r at *
    refine goCall_eq f1 (by simp) ?_
    simp
    refine goTest_dec (fun h2 => ?_) (fun h2 => ?_)
    · rw [if_pos h2] at hs
      simp [h2]
      exact Ends.mk [] [] (by simp [hs])
    · rw [if_neg h2] at hs
      simp [h2]
      exact ⟨by omega, Again.mk (i + 1, r) ⟨hlt, by simp; omega, by simp; omega, hs⟩ (by simp; omega) (Weak.of [] [] (by simp))⟩
  · obtain rfl : i = l.length := by omega
    rw [List.drop_length] at hs
    simp
    exact Ends.mk [] [] (by simp [hs, szL])

theorem szMonitor_ok (m : Monitor) (hl : m.raw) : Fn Tryd.prog fn_laws_szMonitor [m.v, .int .i64 1048576] [] (.int .i64 (szMn m 1048576)) [] := by
  refine Fn.of_go ln_laws_szMonitor rfl ?_
  have f1 := szAssocS_ok m.list 1048576 (by omega) hl.len hl.each
  have hle := szS_le szAs_le m.list 1048576
  have e : szMn m 1048576 = if szS szAs m.list 1048576 < 0 then -1 else cut0 (szF m.found (szS szAs m.list 1048576)) := rfl
  rw [e]
  have f2 := fun h => szFindingS_ok m.found (szS szAs m.list 1048576) ⟨h, by omega⟩ hl.found
  simp only [fsl] at f2
  simp [ac_laws_szMonitor, mon_v]
  refine goCall_eq f1 (by simp) ?_
  generalize szS szAs m.list 1048576 = r at *
  simp
  refine goTest_dec (fun h => ?_) (fun h => ?_)
  · simp [h]
    exact Ends.mk [] [] (by simp [h])
  · simp [h]
    refine goCall_eq (f2 (by omega)) (by simp) ?_
    have e2 : szF m.found r = if r - m.found.length < 0 then -1 else r - m.found.length := rfl
    rw [← e2]
    generalize szF m.found r = q at *
    simp
    refine goTest_dec (fun h2 => ?_) (fun h2 => ?_)
    · simp [h2]
      exact Ends.mk [] [] (by simp [cut0, h2])
    · simp [h2]
      exact Ends.mk [] [] (by simp [cut0, h2])

/-! ## Copies -/
def zv (z : V) (L : List V) (i : Nat) : List V := L.take i ++ List.replicate (L.length - i) z
theorem zv_len {z : V} {L : List V} {i : Nat} (h : i ≤ L.length) : (zv z L i).length = L.length := by simp [zv]; omega
theorem zv_end (z : V) (L : List V) : zv z L L.length = L := by simp [zv]
theorem setEl_zv {z : V} {L : List V} {i : Nat} {cs ds : List V} (hz : z = .agg ds) (hl : cs.length = ds.length) (hi : i < L.length) (hL : L[i] = .agg cs) : setEl i 0 cs (zv z L i) = zv z L (i + 1) := by
  have e1 : L.length - i = (L.length - (i + 1)) + 1 := by omega
  have e2 : (L.take i).length = i := by simp; omega
  have e3 : (zv z L i).getD i .undef = z := by
    unfold zv
    rw [List.getD_eq_getElem?_getD, List.getElem?_append_right (by omega), e2, e1, List.replicate_succ]
    simp
  have e4 : wrEl 0 cs z = L[i] := by
    rw [hz, hL]
    simp [wrEl, setCells, hl]
  unfold setEl
  rw [e3, e4]
  unfold zv
  rw [e1, List.replicate_succ, List.set_append_right _ _ (by omega), e2, Nat.sub_self, List.set_cons_zero]
  have e5 : L.take (i + 1) = L.take i ++ [L[i]] := by rw [List.take_succ_eq_append_getElem hi]
  rw [e5, List.append_assoc]
  rfl

def zPartV : V := .agg [.int .i64 0, .int .i64 0, .int .i64 0, .bool false, .bool false, .bool false, .str []]
def zAssocV : V := .agg [.int .i64 0, .int .i64 0, .int .i64 0, .bool false, .int .i64 0, .int .i64 0, .int .i64 0, .nils, .int .i64 0, .int .i64 0, .int .i64 0, .int .i64 0, .nils, .int .i64 0]

theorem toData_ok (d : Part) : Fn Tryd.prog fn_laws_toData [d.v] [] d.v [] := by
  refine Fn.of_go ln_laws_toData rfl ?_
  simp [ac_laws_toData, Part.v, Part.cells]
  exact Ends.mk [] [] (by simp)

theorem toDataS_ok (l : List Part) (hl : l.length ≤ 1048576) : Fn Tryd.prog fn_laws_toDataS [.sl none 7 (l.map Part.v)] [] (.sl (some 0) 7 (l.map Part.v)) [] := by
  refine Fn.of_go ln_laws_toDataS rfl ?_
  simp [ac_laws_toDataS]
  refine ⟨by simp [roomOk]; omega, ?_⟩
  refine go_loop (fun i => { env := [(0, .sl none 7 (l.map Part.v)), (3, .sl (some 0) 7 (zv zPartV (l.map Part.v) i)), (4, .int .i64 (i : Nat))], loc := [], box := [], stat := [(0, some (.own l.length 7))] }) (fun i => i ≤ l.length) (fun i => l.length - i) 0 (by omega) (Weak.of [(0, some 112, l.length, 7)] [] (by simp [zv, zPartV])) ?_
  intro i hi
  have hz : (zv zPartV (l.map Part.v) i).length = l.length := by rw [zv_len (by simpa using hi)]; simp
  simp
  refine goTest_dec (fun hlt => ?_) (fun hge => ?_)
  · have hlm : i < (l.map Part.v).length := by simpa using hlt
    have f1 := toData_ok (nth l i)
    have he := setEl_zv (z := zPartV) (L := l.map Part.v) (i := i) (cs := (Part.v (nth l i)).cells) (ds := zPartV.cells) rfl rfl hlm (by rw [List.getElem_map, ← nth_eq hlt]; rfl)
    simp only [Part.v, Part.cells, V.cells] at f1 he
    simp [hlt, Part.v, Part.cells]
    refine goCall_eq f1 (by simp) ?_
    simp [hz, hlt, he]
    exact ⟨by omega, .mk (i + 1) hlt (by omega) (Weak.of [(0, some 0, l.length, 7)] [] (by simp))⟩
  · obtain rfl : i = l.length := by omega
    have he : zv zPartV (l.map Part.v) l.length = l.map Part.v := by
      have := zv_end zPartV (l.map Part.v)
      rw [List.length_map] at this
      exact this
    simp [he]
    exact Ends.mk [(0, some 0, l.length, 7)] [] (by simp)

theorem toSide_ok (s : Side) (hl : s.sent.length ≤ 1048576) : Fn Tryd.prog fn_laws_toSide [s.v] [] s.v [] := by
  refine Fn.of_go ln_laws_toSide rfl ?_
  have f1 := toDataS_ok s.sent hl
  simp [ac_laws_toSide, side_v]
  refine goCall_gen [] [] [] [] none f1 (by simp) ?_
  simp
  exact Ends.mk [] [] (by simp)

theorem toAssoc_ok (x : Assoc) (h1 : x.a.sent.length ≤ 1048576) (h2 : x.b.sent.length ≤ 1048576) : Fn Tryd.prog fn_laws_toAssoc [x.v] [] x.v [] := by
  refine Fn.of_go ln_laws_toAssoc rfl ?_
  have f1 := toSide_ok x.a h1
  have f2 := toSide_ok x.b h2
  simp only [side_v] at f1 f2
  simp [ac_laws_toAssoc, assoc_v]
  refine goCall_gen [] [] [] [] none f1 (by simp) ?_
  simp
  refine goCall_gen [] [] [] [] none f2 (by simp) ?_
  simp
  exact Ends.mk [] [] (by simp)

theorem toAssocS_ok (l : List Assoc) (hl : l.length ≤ 1048576) (hx : ∀ x ∈ l, x.a.sent.length ≤ 1048576 ∧ x.b.sent.length ≤ 1048576) : Fn Tryd.prog fn_laws_toAssocS [.sl none 14 (l.map Assoc.v)] [] (.sl (some 0) 14 (l.map Assoc.v)) [] := by
  refine Fn.of_go ln_laws_toAssocS rfl ?_
  simp [ac_laws_toAssocS]
  refine ⟨by simp [roomOk]; omega, ?_⟩
  refine go_loop (fun i => { env := [(0, .sl none 14 (l.map Assoc.v)), (3, .sl (some 0) 14 (zv zAssocV (l.map Assoc.v) i)), (4, .int .i64 (i : Nat))], loc := [], box := [], stat := [(0, some (.own l.length 14))] }) (fun i => i ≤ l.length) (fun i => l.length - i) 0 (by omega) (Weak.of [(0, some 112, l.length, 14)] [] (by simp [zv, zAssocV])) ?_
  intro i hi
  have hz : (zv zAssocV (l.map Assoc.v) i).length = l.length := by rw [zv_len (by simpa using hi)]; simp
  simp
  refine goTest_dec (fun hlt => ?_) (fun hge => ?_)
  · have hlm : i < (l.map Assoc.v).length := by simpa using hlt
    have f1 := toAssoc_ok (nth l i) (hx _ (nth_mem hlt)).1 (hx _ (nth_mem hlt)).2
    have he := setEl_zv (z := zAssocV) (L := l.map Assoc.v) (i := i) (cs := (Assoc.v (nth l i)).cells) (ds := zAssocV.cells) rfl rfl hlm (by rw [List.getElem_map, ← nth_eq hlt]; rfl)
    simp only [assoc_v, V.cells] at f1 he
    simp [hlt, assoc_v]
    refine goCall_eq f1 (by simp) ?_
    simp [hz, hlt, he]
    exact ⟨by omega, .mk (i + 1) hlt (by omega) (Weak.of [(0, some 0, l.length, 14)] [] (by simp))⟩
  · obtain rfl : i = l.length := by omega
    have he : zv zAssocV (l.map Assoc.v) l.length = l.map Assoc.v := by
      have := zv_end zAssocV (l.map Assoc.v)
      rw [List.length_map] at this
      exact this
    simp [he]
    exact Ends.mk [(0, some 0, l.length, 14)] [] (by simp)

theorem toMonitor_ok (m : Monitor) (h : m.small) : Fn Tryd.prog fn_laws_toMonitor [m.v] [] m.v [] := by
  refine Fn.of_go ln_laws_toMonitor rfl ?_
  have f1 := toAssocS_ok m.list h.len h.each
  have f2 := toFindingS_ok m.found (by have := h.found; omega)
  simp only [fsl] at f2
  simp [ac_laws_toMonitor, mon_v]
  refine goCall_gen [] [] [] [] none f1 (by simp) ?_
  simp
  refine goCall_gen [] [] [] [] none f2 (by simp) ?_
  simp
  exact Ends.mk [] [] (by simp)

/-! ## Comparing with itself -/
theorem eqData_ok (d : Part) : Fn Tryd.prog fn_laws_eqData [d.v, d.v] [] (.bool true) [] := by
  refine Fn.of_go ln_laws_eqData rfl ?_
  simp [ac_laws_eqData, Part.v, Part.cells]
  exact Ends.mk [] [] (by simp)

theorem eqDataS_ok (l : List Part) (hl : l.length ≤ 1048576) : Fn Tryd.prog fn_laws_eqDataS [.sl none 7 (l.map Part.v), .sl none 7 (l.map Part.v)] [] (.bool true) [] := by
  refine Fn.of_go ln_laws_eqDataS rfl ?_
  simp [ac_laws_eqDataS]
  refine go_loop (fun i => { env := [(0, .sl none 7 (l.map Part.v)), (1, .sl none 7 (l.map Part.v)), (5, .int .i64 (i : Nat))], loc := [], box := [], stat := [] }) (fun i => i ≤ l.length) (fun i => l.length - i) 0 (by omega) (Weak.of [] [] (by simp)) ?_
  intro i hi
  simp
  refine goTest_dec (fun hlt => ?_) (fun hge => ?_)
  · have f1 := eqData_ok (nth l i)
    simp only [Part.v, Part.cells] at f1
    simp [hlt, Part.v, Part.cells]
    refine goCall_eq f1 (by simp) ?_
    simp
    exact ⟨by omega, .mk (i + 1) hlt (by omega) (Weak.of [] [] (by simp))⟩
  · obtain rfl : i = l.length := by omega
    simp
    exact Ends.mk [] [] (by simp)

theorem eqSide_ok (s : Side) (hl : s.sent.length ≤ 1048576) : Fn Tryd.prog fn_laws_eqSide [s.v, s.v] [] (.bool true) [] := by
  refine Fn.of_go ln_laws_eqSide rfl ?_
  have f1 := eqDataS_ok s.sent hl
  simp [ac_laws_eqSide, side_v]
  refine goCall_eq f1 (by simp) ?_
  simp
  exact Ends.mk [] [] (by simp)

theorem eqAssoc_ok (x : Assoc) (h1 : x.a.sent.length ≤ 1048576) (h2 : x.b.sent.length ≤ 1048576) : Fn Tryd.prog fn_laws_eqAssoc [x.v, x.v] [] (.bool true) [] := by
  refine Fn.of_go ln_laws_eqAssoc rfl ?_
  have f1 := eqSide_ok x.a h1
  have f2 := eqSide_ok x.b h2
  simp only [side_v] at f1 f2
  simp [ac_laws_eqAssoc, assoc_v]
  refine goCall_eq f1 (by simp) ?_
  simp
  refine goCall_eq f2 (by simp) ?_
  simp
  exact Ends.mk [] [] (by simp)

theorem eqAssocS_ok (l : List Assoc) (hl : l.length ≤ 1048576) (hx : ∀ x ∈ l, x.a.sent.length ≤ 1048576 ∧ x.b.sent.length ≤ 1048576) : Fn Tryd.prog fn_laws_eqAssocS [.sl none 14 (l.map Assoc.v), .sl none 14 (l.map Assoc.v)] [] (.bool true) [] := by
  refine Fn.of_go ln_laws_eqAssocS rfl ?_
  simp [ac_laws_eqAssocS]
  refine go_loop (fun i => { env := [(0, .sl none 14 (l.map Assoc.v)), (1, .sl none 14 (l.map Assoc.v)), (5, .int .i64 (i : Nat))], loc := [], box := [], stat := [] }) (fun i => i ≤ l.length) (fun i => l.length - i) 0 (by omega) (Weak.of [] [] (by simp)) ?_
  intro i hi
  simp
  refine goTest_dec (fun hlt => ?_) (fun hge => ?_)
  · have f1 := eqAssoc_ok (nth l i) (hx _ (nth_mem hlt)).1 (hx _ (nth_mem hlt)).2
    simp only [assoc_v] at f1
    simp [hlt, assoc_v]
    refine goCall_eq f1 (by simp) ?_
    simp
    exact ⟨by omega, .mk (i + 1) hlt (by omega) (Weak.of [] [] (by simp))⟩
  · obtain rfl : i = l.length := by omega
    simp
    exact Ends.mk [] [] (by simp)

theorem eqMonitor_ok (m : Monitor) (h : m.small) : Fn Tryd.prog fn_laws_eqMonitor [m.v, m.v] [] (.bool true) [] := by
  refine Fn.of_go ln_laws_eqMonitor rfl ?_
  have f1 := eqAssocS_ok m.list h.len h.each
  have f2 := eqFindingS_ok m.found m.found (by have := h.found; omega)
  simp only [fsl] at f2
  simp [ac_laws_eqMonitor, mon_v]
  refine goCall_eq f1 (by simp) ?_
  simp
  refine goCall_eq f2 (by simp) ?_
  simp
  exact Ends.mk [] [] (by simp)
end

section
open Go.ChangeShapes Go.WideShapes Go.ChangeAt Go.RowKit

/-- At the start nobody owns anything. -/
def γ0 : Ghost := ⟨fun _ => none, fun _ => none, fun _ => none, fun _ => False⟩

theorem hinv0 (w : World) : HInv (.ofGhost w γ0) (boxesOf []) [] γ0 w :=
  ⟨fun d cs hl => by simp [boxesOf, boxesFrom, lookB] at hl, ⟨fun d g hg => by simp [γ0] at hg, fun d g hg => by simp [Ctx.ofGhost, γ0] at hg⟩,
    fun σ top sz hs => by simp [lookS] at hs, fun g x hg => by simp [γ0] at hg, ⟨rfl, fun g hg => hg.elim⟩, ⟨rfl, rfl, rfl, Nat.le_refl _, fun _ _ _ => rfl, fun _ _ h => h⟩⟩

/-- A contract that asks for no variables, at the start. -/
theorem Fn.calls {P : Program} {f : FuncId} {args : List V} {R : V} (hf : Fn P f args [] R []) (hargs : argStat args [] = []) (w : World) (vs : List Value) (hT : Tb (γ0.un w) w) (hc : CellsRel [] γ0 w args vs) :
    Calls P f vs.toArray w fun e w' => ∃ v γ', e = .returned v ∧ VRel (resStat R []) γ' w' R v ∧ Below w.heap.size w w' := by
  have h1 : HInv (.ofGhost w γ0) (boxesOf []) (argStat args []) γ0 w := by rw [hargs]; exact hinv0 w
  refine (hf w γ0 vs hT h1 (by rw [hargs]; exact hc)).mono fun e w' hex => ?_
  obtain ⟨v, γ', rfl, hH, hv⟩ := hex
  exact ⟨v, γ', rfl, hv, hH.frame.os, hH.frame.tape, hH.frame.output, hH.frame.size, fun g hg => hH.frame.same g hg (by simp [Ctx.ofGhost, γ0])⟩

theorem Fn.calls_true {P : Program} {f : FuncId} {args : List V} (hf : Fn P f args [] (.bool true) []) (hargs : argStat args [] = []) (w : World) (vs : List Value) (hT : Tb (γ0.un w) w) (hc : CellsRel [] γ0 w args vs) :
    Calls P f vs.toArray w fun e w' => e = .returned (.bool true) ∧ Below w.heap.size w w' := by
  refine (hf.calls hargs w vs hT hc).mono fun e w' hex => ?_
  obtain ⟨v, γ', rfl, hv, hb⟩ := hex
  refine ⟨?_, hb⟩
  cases hv with
  | base h => cases h with
    | bool b => rfl

theorem rel_one {w : World} {x : V} {v : Value} (h : VRel [] γ0 w x v) : CellsRel [] γ0 w [x] [v] :=
  ⟨rfl, fun k h1 h2 => by match k with | 0 => exact h⟩

end

section
open Go.ChangeShapes Go.WideShapes Go.ChangeAt Go.RowKit

theorem own : ownKnob Tryd.prog.godebug = none := by kernel_rfl
theorem laidOut : laidOutB Tryd.prog = true := by kernel_rfl
theorem gTab : Tryd.prog.globalNamed "internal/strconv.uint64pow10" = some 0 := by kernel_rfl
theorem gTabType : (Tryd.prog.globals[0]?).map (·.type) = some 118 := by kernel_rfl

theorem pow10_of {W : World} (h : laidMetH Tryd.prog [("math/bits.deBruijn32tab", Rows.laid_math_bits_deBruijn32tab), ("math/bits.deBruijn64tab", Rows.laid_math_bits_deBruijn64tab), ("internal/strconv.uint64pow10", Rows.laid_internal_strconv_uint64pow10)] W) :
    Lib.TabIs Tryd.prog W "internal/strconv.uint64pow10" .u64 Lib.pow10Tab := by
  have h1 : laidMet Tryd.prog [("math/bits.deBruijn32tab", Rows.laid_math_bits_deBruijn32tab), ("math/bits.deBruijn64tab", Rows.laid_math_bits_deBruijn64tab), ("internal/strconv.uint64pow10", Rows.laid_internal_strconv_uint64pow10)] W := h
  have h2 := _root_.Go.laidMet.filter (fun x => x.1 == "internal/strconv.uint64pow10") h1
  exact Lib.tabIs_of_head (rest := []) gTab gTabType Tryd.underlying118 Tryd.underlying104 (by kernel_rfl) (by kernel_rfl) h2

theorem tabsD {W : World} (h : Lib.TabIs Tryd.prog W "internal/strconv.uint64pow10" .u64 Lib.pow10Tab) (hsh : W.ShapedOpen Tryd.prog) : Tb (γ0.un W) W where
  pow10 := by
    simp only [Lib.TabIs, World.var?, gTab, Option.bind_some] at h
    cases hb : W.heap[0]? with
    | none => rw [hb] at h; cases h
    | some o =>
      rw [hb] at h
      cases o with
      | cells c e fr =>
        obtain rfl := Option.some.inj h
        refine ⟨⟨?_, rfl⟩, e, fr, hb⟩
        rcases Nat.lt_or_ge 0 W.heap.size with h | h
        · exact h
        · rw [Array.getElem?_eq_none h] at hb; cases hb
      | _ => cases h

/-- The cells of a table that a row lists. -/
def cellsOfTab : DataW Unit → Array Value
  | .agg l => (l.map fun d => match d with
    | .lit (.int k n) => Value.int k n
    | _ => .bool false).toArray
  | _ => #[]

def layTab (h : Array Obj) (g : Nat) (d : DataW Unit) : Array Obj := h.modify g fun o => match o with
  | .cells _ t fr => .cells (cellsOfTab d) t fr
  | o => o

/-- A world that holds the tables. -/
noncomputable def laidWorld (os : Os) : World :=
  { World.holding Tryd.prog os ⟨#[], #[], []⟩ with heap := layTab (layTab (layTab (World.holding Tryd.prog os ⟨#[], #[], []⟩).heap 0 Rows.laid_internal_strconv_uint64pow10) 1 Rows.laid_math_bits_deBruijn32tab) 2 Rows.laid_math_bits_deBruijn64tab }
end

end Go.Proofs.YtnhhcfbigjpfeaaDoor
