/-
  Talks, by the reference: parts.
  The parts of a talk, message by message: plain words.
  Talks, by the program: which are valid; chunks and packets written.
  The parts of a talk, message by message, by the program: contract.
  Talks, by the reference: packets, records.
-/
import Derived.Test.YtjkbbdmkgealfaaGreatDoorQ27
import Derived.Test.YtjkbbdmkgealfaaGreatDoorQ23
namespace Go.Proofs.YtjkbbdmkgealfaaGreatDoor
set_option linter.all false
section
set_option maxRecDepth 200000
set_option maxHeartbeats 4000000
attribute [-simp] List.getD_eq_getElem?_getD
def partsI (t : Talk) (byB : Bool) (i : Nat) : List Part := (t.says.take i).foldl (sayF t.size.toNat (t.tsn byB) byB) []
theorem partsI_succ {t : Talk} {byB : Bool} {i : Nat} (h : i < t.says.length) : partsI t byB (i + 1) = sayF t.size.toNat (t.tsn byB) byB (partsI t byB i) (nth t.says i) := by
  unfold partsI; rw [take_nth h, List.foldl_append]; rfl
theorem partsI_len {t : Talk} (hc : TalkC t) (byB : Bool) (i : Nat) : (partsI t byB i).length + manyL t.size.toNat byB (t.says.drop i) ≤ 12 := by
  have h1 := hc.size
  unfold partsI
  rw [fold_len (by omega)]
  have e : manyL t.size.toNat byB t.says = manyL t.size.toNat byB (t.says.take i) + manyL t.size.toNat byB (t.says.drop i) := by rw [← manyL_append, List.take_append_drop]
  have := hc.ma
  have := hc.mb
  cases byB <;> simp <;> omega
theorem partsI_all (t : Talk) (byB : Bool) : partsI t byB t.says.length = partsT t byB := by simp [partsI, partsT]
theorem pieces_end {z : Nat} {first : Int} {x : Say} {ssn : Int} {f i : Nat} {out : List Part} (h : ¬ i < x.text.length) : piecesF z first x ssn f i out = out := by
  cases f with
  | zero => rfl
  | succ f => unfold piecesF; rw [if_neg h]
theorem pieces_go {z : Nat} {first : Int} {x : Say} {ssn : Int} {f i : Nat} {out : List Part} (h : i < x.text.length) : piecesF z first x ssn (f + 1) i out = piecesF z first x ssn f (i + z) (out ++ [⟨addS first out.length, x.stream, ssn, decide (i = 0), decide (min (i + z) x.text.length = x.text.length), x.loose, (x.text.take (min (i + z) x.text.length)).drop i⟩]) := by
  rw [piecesF, if_pos h]
theorem l41Parts_ok (t : Talk) (byB : Bool) (hc : TalkC t) : Fn Tryz.prog fn_spec_l41Parts [t.v, .bool byB] [] (psl (partsT t byB)) [] := by
  refine Fn.of_go ln_spec_l41Parts rfl ?_
  have hz := hc.size
  obtain ⟨z, hze⟩ := Int.eq_ofNat_of_zero_le (show 0 ≤ t.size by omega)
  have hz1 : 1 ≤ z ∧ z ≤ 20 := by omega
  have hsz : t.size.toNat = z := by omega
  have ha := hello_facts hc.a
  have hbF := hello_facts hc.b
  have hfirst : 0 ≤ t.tsn byB ∧ t.tsn byB ≤ 65535 := by cases byB <;> simp [Talk.tsn] <;> omega
  have h0 : partsI t byB 0 = [] := by simp [partsI]
  have hpl := partsI_len hc byB
  have hps := fun i => partsI_succ (t := t) (byB := byB) (i := i)
  have hlens := hc.says
  rw [hsz] at hpl hps
  rw [← partsI_all]
  have hta : byB = false → t.a.tsn = t.tsn byB := by rintro rfl; rfl
  have htb : byB = true → t.b.tsn = t.tsn byB := by rintro rfl; rfl
  generalize t.tsn byB = first at *
  have key : ∀ st, Weak st { env := [(1, .bool byB), (2, .ptr 2 0), (5, .int .i64 first), (6, .sl (some 0) 7 []), (7, .int .i64 ((0 : Nat) : Int))], loc := [], box := [(2, t.cells)], stat := [(0, some (.own 0 7))] } → True := fun _ _ => trivial
  simp [ac_spec_l41Parts, talk_v]
  refine goTest_bool (fun hb => ?_) (fun hb => ?_)
  all_goals
    first
      | have hq := htb hb
      | have hq := hta hb
    simp [hq]
    refine go_loop (fun i => { env := [(1, .bool byB), (2, .ptr 2 0), (5, .int .i64 first), (6, .sl (some 0) 7 ((partsI t byB i).map Part.v)), (7, .int .i64 (i : Nat))], loc := [], box := [(2, t.cells)], stat := [(0, some (.own (partsI t byB i).length 7))] }) (fun i => i ≤ t.says.length) (fun i => t.says.length - i) 0 (by omega) (Weak.of [(0, some 320, 0, 7)] [(2, 2)] (by simp [Talk.cells, Hello.cells, h0, hq])) ?_
    clear hq hta htb
    intro i hi
    have hle := hpl i
    simp [Talk.cells, Hello.cells]
    refine goTest_dec (fun hlt => ?_) (fun hge => ?_)
    · have hs := hps i hlt
      have htx := hc.text _ (nth_mem hlt)
      rw [manyL_drop hlt] at hle
      simp [hlt, say_v]
      generalize hx : nth t.says i = x at *
      generalize partsI t byB i = o at *
      have hssn := l31Ssn_ok o x.stream (by omega)
      simp only [psl] at hssn
      have hsf : sayF z first byB o x = if x.byB = byB then piecesF z first x (ssnF x o) x.text.length 0 o else o := rfl
      refine goTest_bool (fun hl => ?_) (fun hl => ?_)
      all_goals
        simp
        try
          refine goCall_gen [] [] [] [0] none hssn (by simp) ?_
          simp
        refine go_loop (fun y : Nat × List Part => { env := [(1, .bool byB), (2, .ptr 2 0), (5, .int .i64 first), (6, .sl (some 0) 7 (y.2.map Part.v)), (7, .int .i64 (i : Nat)), (8, .ptr 8 0), (9, .int .i64 (ssnF x o)), (10, .int .i64 (y.1 : Nat))], loc := [], box := [(2, t.cells), (8, x.cells)], stat := [(0, some (.own y.2.length 7))] })
          (fun y => y.1 ≤ x.text.length + z ∧ (if x.byB = byB then y.2.length + manyN (x.text.length - y.1) z ≤ 12 ∧ ∃ f, x.text.length - y.1 ≤ f ∧ piecesF z first x (ssnF x o) f y.1 y.2 = sayF z first byB o x else y.2 = o)) (fun y => x.text.length + z - y.1) (0, o)
          ⟨by simp, by
            by_cases q : x.byB = byB
            · rw [if_pos q] at hle ⊢
              exact ⟨by simp; omega, _, Nat.le_refl _, by rw [hsf, if_pos q]; rfl⟩
            · rw [if_neg q]⟩ (Weak.of [(0, some 0, o.length, 7)] [(2, 2), (8, 8)] (by simp [Talk.cells, Hello.cells, Say.cells, ssnF, hl])) ?_
        rintro ⟨j, out⟩ ⟨h1, h2⟩
        simp only at h1 h2
        have done : ¬ j < x.text.length ∨ ¬ x.byB = byB → out = sayF z first byB o x := by
          intro h
          by_cases q : x.byB = byB
          · rw [if_pos q] at h2
            obtain ⟨_, f, _, hp⟩ := h2
            rw [← hp, pieces_end (by rcases h with h | h; exact h; exact absurd q h)]
          · rw [if_neg q] at h2
            rw [hsf, if_neg q, h2]
        simp [Talk.cells, Hello.cells, Say.cells]
        refine goTest_dec (fun hj => ?_) (fun hj => ?_)
        rotate_left
        · have hd := done (Or.inl hj)
          simp [hj]
          exact ⟨by omega, Again.mk (i + 1) hlt (by omega) (Weak.of [(0, some 0, out.length, 7)] [(2, 2)] (by simp [Talk.cells, Hello.cells, hs, hd]))⟩
        simp [hj]
        refine goTest_bool (fun hbb => ?_) (fun hbb => ?_)
        rotate_left
        · have hd := done (Or.inr (by simpa using hbb))
          simp
          exact ⟨by omega, Again.mk (i + 1) hlt (by omega) (Weak.of [(0, some 0, out.length, 7)] [(2, 2)] (by simp [Talk.cells, Hello.cells, hs, hd]))⟩
        have hbb2 : x.byB = byB := by simpa using hbb
        rw [if_pos hbb2, many_step hz1.1 hj] at h2
        obtain ⟨h3, f, hf, hp⟩ := h2
        obtain ⟨g, rfl⟩ : ∃ g, f = g + 1 := ⟨f - 1, by omega⟩
        rw [pieces_go hj] at hp
        have hadd := l3Add_ok first out.length (by omega) (by omega) (by omega)
        obtain ⟨e, he⟩ : ∃ e, min (j + z) x.text.length = e := ⟨_, rfl⟩
        have he2 : (if (x.text.length : Int) < (j : Int) + z then (x.text.length : Int) else (j : Int) + z) = (e : Nat) := by split <;> omega
        rw [he] at hp
        simp [hze, he2]
        refine ⟨by omega, ?_⟩
        refine goDCall_eq hadd (by simp) (by simp) ?_
        simp
        repeat' (first | (refine And.intro (by omega) ?_) | (refine And.intro (by unfold roomOk; omega) ?_) | fail)
        refine Again.mk (j + z, out ++ [⟨addS first out.length, x.stream, ssnF x o, decide (j = 0), decide (e = x.text.length), x.loose, (x.text.take e).drop j⟩]) ⟨by simp; omega, ?_⟩ (by simp; omega) (Weak.of [(0, some 0, out.length + 1, 7)] [(2, 2), (8, 8)] ?_)
        · rw [if_pos hbb2]
          exact ⟨by simp; omega, g, by simp; omega, hp⟩
        · simp [Talk.cells, Hello.cells, Say.cells, pt_v, hze, ssnF, hl]
    · obtain rfl : i = t.says.length := by omega
      simp
      exact Ends.mk [] [] (by simp [psl])
end
section
set_option maxRecDepth 200000
set_option maxHeartbeats 8000000
attribute [-simp] List.getD_eq_getElem?_getD
def piecesN (z : Nat) (first : Int) (x : Say) (ssn : Int) : Nat → Nat → Nat → List Part
  | 0, _, _ => []
  | f + 1, i, n => if i < x.text.length then
      ⟨addS first n, x.stream, ssn, decide (i = 0), decide (min (i + z) x.text.length = x.text.length), x.loose, (x.text.take (min (i + z) x.text.length)).drop i⟩ :: piecesN z first x ssn f (i + z) (n + 1) else []
theorem piecesF_eq {z : Nat} {first : Int} {x : Say} {ssn : Int} : ∀ (f i : Nat) (out : List Part), piecesF z first x ssn f i out = out ++ piecesN z first x ssn f i out.length
  | 0, _, out => by simp [piecesF, piecesN]
  | f + 1, i, out => by
    unfold piecesF piecesN
    split
    · rw [piecesF_eq f]
      simp
    · simp
theorem piecesN_len {z : Nat} (hz : 1 ≤ z) {first : Int} {x : Say} {ssn : Int} (f i n : Nat) (h : x.text.length - i ≤ f) : (piecesN z first x ssn f i n).length = manyN (x.text.length - i) z := by
  have h1 := pieces_len hz (first := first) (x := x) (ssn := ssn) f i (List.replicate n default) h
  rw [piecesF_eq] at h1
  simp at h1
  exact h1
theorem ssn_later {z : Nat} {first : Int} {x : Say} {ssn s : Int} : ∀ (f i n : Nat), 0 < i → ssnN (piecesN z first x ssn f i n) s = 0
  | 0, _, _, _ => rfl
  | f + 1, i, n, h => by
    unfold piecesN
    split
    · have ih := ssn_later (z := z) (first := first) (x := x) (ssn := ssn) (s := s) f (i + z) (n + 1) (by omega)
      unfold ssnN at ih ⊢
      rw [List.filter_cons]
      have : decide (i = 0) = false := by simp; omega
      simp only [this, Bool.false_and, Bool.false_eq_true, if_false]
      exact ih
    · rfl
theorem ssn_pieces {z : Nat} (hz : 1 ≤ z) {first : Int} {x : Say} {ssn s : Int} (n : Nat) (h : 1 ≤ x.text.length) : ssnN (piecesN z first x ssn x.text.length 0 n) s = if !x.loose && decide (x.stream = s) then 1 else 0 := by
  obtain ⟨f, hf⟩ : ∃ f, x.text.length = f + 1 := ⟨x.text.length - 1, by omega⟩
  rw [hf]
  unfold piecesN
  rw [if_pos (by omega)]
  have h1 := ssn_later (z := z) (first := first) (x := x) (ssn := ssn) (s := s) f (0 + z) (n + 1) (by omega)
  unfold ssnN at h1 ⊢
  rw [List.filter_cons]
  cases hq : (!x.loose && decide (x.stream = s))
  · simp only [decide_true, Bool.true_and, hq, Bool.false_eq_true, if_false]
    exact h1
  · simp only [decide_true, Bool.true_and, hq, if_true, List.length_cons]
    rw [h1]
theorem ssn_append (a b : List Part) (s : Int) : ssnN (a ++ b) s = ssnN a s + ssnN b s := by simp [ssnN]
def partsJ (t : Talk) (i : Nat) : List Part :=
  piecesN t.size.toNat (t.tsn (nth t.says i).byB) (nth t.says i) (ssnF (nth t.says i) (partsI t (nth t.says i).byB i)) (nth t.says i).text.length 0 (partsI t (nth t.says i).byB i).length
theorem partsI_same {t : Talk} {i : Nat} (h : i < t.says.length) : partsI t (nth t.says i).byB (i + 1) = partsI t (nth t.says i).byB i ++ partsJ t i := by
  rw [partsI_succ h]
  unfold sayF
  rw [if_pos rfl, piecesF_eq]
  rfl
theorem partsI_other {t : Talk} {i : Nat} {b : Bool} (h : i < t.says.length) (hb : (nth t.says i).byB ≠ b) : partsI t b (i + 1) = partsI t b i := by
  rw [partsI_succ h]
  unfold sayF
  rw [if_neg hb]
theorem ssn_step {t : Talk} (hc : TalkC t) {i : Nat} (h : i < t.says.length) (b : Bool) (s : Int) :
    ssnN (partsI t b (i + 1)) s = ssnN (partsI t b i) s + if (nth t.says i).byB = b ∧ (nth t.says i).loose = false ∧ (nth t.says i).stream = s then 1 else 0 := by
  have htx := hc.text _ (nth_mem h)
  by_cases hb : (nth t.says i).byB = b
  · subst hb
    have hz := hc.size
    rw [partsI_same h, ssn_append, partsJ, ssn_pieces (by omega) _ htx.1]
    congr 1
    cases (nth t.says i).loose <;> simp
  · rw [partsI_other h hb, if_neg (fun q => hb q.1)]
    rfl
theorem addS_zero {a : Int} (h : 0 ≤ a ∧ a ≤ 65535) : addS a (0 : Nat) = a := by unfold addS; omega
theorem addS_one (a : Int) (n : Nat) (h : 0 ≤ a ∧ a ≤ 65535) : addS a ((n + 1 : Nat) : Int) = (addS a n + 1) % 65536 := by unfold addS; omega
theorem map_set {α : Type} {f : α → V} {l : List α} {k : Nat} {v : α} (h : k < l.length) : (l.map f).take k ++ [f v] ++ (l.map f).drop (k + 1) = (l.set k v).map f := by
  rw [List.map_set, List.set_eq_take_append_cons_drop, if_pos (by simpa using h)]
  simp
def pairT (t : Talk) (b : Bool) (d : Part) : List Packet := [packT t b [dataC d], packT t (!b) [sackC d]]
theorem sendF_eq (t : Talk) (b : Bool) : ∀ (k : Nat) (m : List Part) (out : List Packet), k ≤ m.length → sendF t b k m out = (m.drop k, out ++ (m.take k).flatMap (pairT t b))
  | 0, m, out, _ => by simp [sendF]
  | k + 1, m, out, h => by
    cases m with
    | nil => simp at h
    | cons d r =>
      unfold sendF
      have e : nth (d :: r) 0 = d := rfl
      rw [e, List.drop_one, List.tail_cons, sendF_eq t b k r _ (by simpa using h)]
      simp [pairT]
def sentI (t : Talk) (i : Nat) : List Packet := (List.range i).flatMap fun j => (partsJ t j).flatMap (pairT t (nth t.says j).byB)
theorem sentI_succ (t : Talk) (i : Nat) : sentI t (i + 1) = sentI t i ++ (partsJ t i).flatMap (pairT t (nth t.says i).byB) := by
  simp [sentI, List.range_succ]
theorem partsI_prefix {t : Talk} (b : Bool) : ∀ (k i : Nat), i + k = t.says.length → partsI t b i <+: partsI t b t.says.length
  | 0, i, h => by
    have : i = t.says.length := by omega
    rw [this]
    exact List.prefix_refl _
  | k + 1, i, h => by
    have ih := partsI_prefix (t := t) b k (i + 1) (by omega)
    refine List.IsPrefix.trans ?_ ih
    by_cases hb : (nth t.says i).byB = b
    · subst hb
      rw [partsI_same (by omega)]
      exact List.prefix_append _ _
    · rw [partsI_other (by omega) hb]
      exact List.prefix_refl _
theorem says_sent {t : Talk} (hc : TalkC t) : ∀ (k i : Nat) (out : List Packet), i + k = t.says.length →
    saysF t (t.says.drop i) ((partsT t false).drop (partsI t false i).length) ((partsT t true).drop (partsI t true i).length) (out ++ sentI t i) = out ++ sentI t t.says.length
  | 0, i, out, h => by
    have : i = t.says.length := by omega
    subst this
    simp [saysF]
  | k + 1, i, out, h => by
    have hlt : i < t.says.length := by omega
    have hz := hc.size
    have ih := says_sent hc k (i + 1) out (by omega)
    rw [List.drop_eq_getElem_cons hlt, ← nth_eq hlt]
    unfold saysF
    have hlen : (partsJ t i).length = manyN (nth t.says i).text.length t.size.toNat := by
      unfold partsJ
      rw [piecesN_len (by omega) _ _ _ (by omega)]
      rfl
    have htake : ∀ b, (nth t.says i).byB = b → ((partsT t b).drop (partsI t b i).length).take (manyN (nth t.says i).text.length t.size.toNat) = partsJ t i ∧ manyN (nth t.says i).text.length t.size.toNat ≤ ((partsT t b).drop (partsI t b i).length).length ∧ ((partsT t b).drop (partsI t b i).length).drop (manyN (nth t.says i).text.length t.size.toNat) = (partsT t b).drop (partsI t b (i + 1)).length := by
      rintro b rfl
      obtain ⟨r, hr⟩ := partsI_prefix (t := t) (nth t.says i).byB k (i + 1) (by omega)
      rw [partsI_same hlt] at hr
      have e : partsT t (nth t.says i).byB = partsI t (nth t.says i).byB i ++ (partsJ t i ++ r) := by rw [← partsI_all, ← hr, List.append_assoc]
      rw [e, List.drop_left, partsI_same hlt, ← hlen]
      refine ⟨List.take_left, by simp, ?_⟩
      rw [List.drop_left, ← List.append_assoc, List.drop_left]
    cases hb : (nth t.says i).byB
    · obtain ⟨h1, h2, h3⟩ := htake false hb
      have ho : partsI t true (i + 1) = partsI t true i := partsI_other hlt (by rw [hb]; simp)
      simp only [Bool.false_eq_true, if_false]
      rw [sendF_eq t false _ _ _ h2, h1, h3, ← ho, List.append_assoc]
      rw [sentI_succ, hb] at ih
      exact ih
    · obtain ⟨h1, h2, h3⟩ := htake true hb
      have ho : partsI t false (i + 1) = partsI t false i := partsI_other hlt (by rw [hb]; simp)
      simp only [if_true]
      rw [sendF_eq t true _ _ _ h2, h1, h3, ← ho, List.append_assoc]
      rw [sentI_succ, hb] at ih
      exact ih
theorem packets_sent {t : Talk} (h : t.ok = true) : packetsT t = helloT t ++ sentI t t.says.length ++ [oneT t false 7, oneT t true 8, oneT t false 14] := by
  have := says_sent (talk_c h) t.says.length 0 (helloT t) (by omega)
  unfold packetsT
  rw [if_pos h]
  have e0 : ∀ b, partsI t b 0 = [] := fun b => by simp [partsI]
  rw [e0, e0] at this
  simp only [sentI, List.range_zero, List.flatMap_nil, List.append_nil, List.length_nil, List.drop_zero] at this
  rw [this]
  rfl
end
section
set_option maxRecDepth 200000
set_option maxHeartbeats 8000000
attribute [-simp] List.getD_eq_getElem?_getD
theorem impl_ChunkPut_ok (c : Chunk) (hc : c.ok = true) : Fn Tryz.prog fn_impl_ChunkPut [c.v] [] (.str (putC c)) [] := by
  refine Fn.of_go ln_impl_ChunkPut rfl ?_
  have f0 := impl_ChunkValid_ok c
  rw [hc] at f0
  simp only [Chunk.ok, inB, Bool.and_eq_true, decide_eq_true_eq] at hc
  obtain ⟨⟨hk, hf⟩, hl⟩ := hc
  obtain ⟨kn, hkn⟩ := Int.eq_ofNat_of_zero_le hk.1
  obtain ⟨fn, hfn⟩ := Int.eq_ofNat_of_zero_le hf.1
  have e1 : IntKind.u8.wrap (kn : Int) = kn := wrap_byte (by omega) (by omega)
  have e2 : IntKind.u8.wrap (fn : Int) = fn := wrap_byte (by omega) (by omega)
  have f1 := WordPut_ok (4 + c.body.length) (by omega)
  have e4 : (4 : Int) + (c.body.length : Int) = ((4 + c.body.length : Nat) : Int) := by omega
  have eb : baseC c = UInt8.ofNat kn :: UInt8.ofNat fn :: (put16 ((4 + c.body.length : Nat) : Int) ++ c.body) := by simp [baseC, hkn, hfn]
  simp only [chunk_v] at f0
  simp [ac_impl_ChunkPut, chunk_v]
  refine goCall_eq f0 (by simp) ?_
  simp [hkn, hfn, e1, e2]
  refine ⟨by omega, ?_⟩
  rw [e4]
  refine goCall_eq f1 (by simp) ?_
  simp [e1, e2]
  repeat' (first | (refine And.intro (by first | omega | (simp [put16_len]; omega) | simp [put16_len]) ?_))
  refine go_loop (fun j => { env := [(5, .str (baseC c ++ List.replicate j 0))], loc := [], box := [], stat := [] }) (fun j => j ≤ (4 + c.body.length + 3) / 4 * 4 - (4 + c.body.length)) (fun j => 4 - j) 0 (by omega) (Weak.of [] [] (by simp [eb])) ?_
  intro j hj
  have hp3 : (4 + c.body.length + 3) / 4 * 4 - (4 + c.body.length) ≤ 3 := by omega
  have hlen : (baseC c ++ List.replicate j 0).length = 4 + c.body.length + j := by simp [baseC, put16_len]; omega
  have hm : ((baseC c ++ List.replicate j 0).length : Int).tmod 4 = (((4 + c.body.length + j) % 4 : Nat) : Int) := by rw [hlen, tmod_pos (by omega)]; omega
  generalize hg : baseC c ++ List.replicate j 0 = g at *
  simp [hm]
  refine goTest_dec (fun q => ?_) (fun q => ?_)
  · have q2 : (4 + c.body.length + j) % 4 = 0 := by omega
    simp
    have : putC c = g := by
      rw [← hg]
      have : j = (4 + c.body.length + 3) / 4 * 4 - (4 + c.body.length) := by omega
      rw [this]; rfl
    rw [this]
    exact Ends.mk [] [] (by simp)
  · simp
    refine ⟨by omega, Again.mk (j + 1) (by omega) (by omega) (Weak.of [] [] ?_)⟩
    rw [← hg]
    simp [List.replicate_succ']
def bodyI (p : Packet) (i : Nat) : List UInt8 := (p.chunks.take i).flatMap putC
theorem bodyI_snoc {p : Packet} {i : Nat} (h : i < p.chunks.length) : bodyI p (i + 1) = bodyI p i ++ putC (nth p.chunks i) := by simp [bodyI, take_nth h]
theorem bodyI_zero (p : Packet) : bodyI p 0 = [] := by simp [bodyI]
theorem headI_body (p : Packet) (i : Nat) : headI p i = put16 p.src ++ (put16 p.dst ++ (put32 p.tag ++ (0 :: 0 :: 0 :: 0 :: bodyI p i))) := rfl
theorem bodyI_len {p : Packet} (h : ∀ c ∈ p.chunks, c.ok = true) {i : Nat} (hi : i ≤ p.chunks.length) : (bodyI p i).length ≤ 64 * i := by
  have := headI_len h i hi
  rw [headI_body] at this
  simp [put16_len, put32_len] at this
  omega
theorem headP_eight (p : Packet) : (headP p).take 8 = put16 p.src ++ (put16 p.dst ++ put32 p.tag) := by
  unfold headP
  rw [headI_body]
  have h1 := put16_len p.src
  have h2 := put16_len p.dst
  have h3 := put32_len p.tag
  have : (put16 p.src ++ (put16 p.dst ++ put32 p.tag)).length = 8 := by rw [List.length_append, List.length_append, h1, h2, h3]
  rw [show put16 p.src ++ (put16 p.dst ++ (put32 p.tag ++ (0 :: 0 :: 0 :: 0 :: bodyI p p.chunks.length))) = (put16 p.src ++ (put16 p.dst ++ put32 p.tag)) ++ (0 :: 0 :: 0 :: 0 :: bodyI p p.chunks.length) from by simp, ← this, List.take_left]
theorem headP_rest (p : Packet) : (headP p).drop 12 = bodyI p p.chunks.length := by
  unfold headP
  rw [headI_body]
  have h1 := put16_len p.src
  have h2 := put16_len p.dst
  have h3 := put32_len p.tag
  have : (put16 p.src ++ (put16 p.dst ++ (put32 p.tag ++ [0, 0, 0, 0]))).length = 12 := by rw [List.length_append, List.length_append, List.length_append, h1, h2, h3]; rfl
  rw [show put16 p.src ++ (put16 p.dst ++ (put32 p.tag ++ (0 :: 0 :: 0 :: 0 :: bodyI p p.chunks.length))) = (put16 p.src ++ (put16 p.dst ++ (put32 p.tag ++ [0, 0, 0, 0]))) ++ bodyI p p.chunks.length from by simp, ← this, List.drop_left]
theorem impl_PacketPut_ok (p : Packet) (hl : p.chunks.length ≤ 1000000) : Fn Tryz.prog fn_impl_PacketPut [p.v] [] (.str (textP p)) [] := by
  refine Fn.of_go ln_impl_PacketPut rfl ?_
  have f0 := impl_PacketValid_ok p hl
  simp only [packet_v] at f0
  simp [ac_impl_PacketPut, packet_v]
  refine goCall_eq f0 (by simp) ?_
  cases hp : p.ok
  · have ht : textP p = [] := by unfold textP; rw [if_neg (by simp [hp])]
    rw [ht]
    simp
    exact Ends.mk [] [] (by simp)
  obtain ⟨h1, h2, h3, h4, h5, -⟩ := packet_bd hp
  obtain ⟨a, ha⟩ := Int.eq_ofNat_of_zero_le (show 0 ≤ p.src by omega)
  obtain ⟨b, hb⟩ := Int.eq_ofNat_of_zero_le (show 0 ≤ p.dst by omega)
  obtain ⟨g, hg⟩ := Int.eq_ofNat_of_zero_le h3.1
  have f1 := words_ok [a, b] (by simp; omega) (by simp)
  have f3 := LongPut_ok g (by omega)
  simp at f1
  have hw : wordsS [a, b] = put16 a ++ put16 b := by simp [wordsS]
  rw [hw] at f1
  simp [ha, hb, hg]
  refine goCall_eq f3 (by simp) ?_
  simp
  refine goCall_gen [] [] [] [384] none f1 (by simp) ?_
  simp
  have hpl := put16_len (a : Int)
  have hpl2 := put16_len (b : Int)
  have hpl3 := put32_len (g : Int)
  refine ⟨by omega, ?_⟩
  have hcl : ∀ i, i ≤ p.chunks.length → (bodyI p i).length ≤ 64 * i := fun i hi => bodyI_len h5 hi
  refine go_loop (fun i : Nat => { env := [(1, .ptr 1 0), (5, .str (put16 a ++ (put16 b ++ put32 g))), (6, .str (bodyI p i)), (29, .sl none 3 (p.chunks.map Chunk.v)), (30, .int .i64 (p.chunks.length : Nat)), (31, .int .i64 (i : Nat))], loc := [], box := [(1, p.cells)], stat := [] }) (fun i => i ≤ p.chunks.length) (fun i => p.chunks.length - i) 0 (by omega) (Weak.of [] [(1, 1)] (by simp [Packet.cells, csl, ha, hb, hg, bodyI_zero])) ?_
  intro i hi
  have hli := hcl i hi
  simp
  refine goTest_dec (fun hlt => ?_) (fun hge => ?_)
  · have hc := h5 _ (nth_mem hlt)
    have g1 := impl_ChunkPut_ok _ hc
    have hL := putC_len (nth p.chunks i)
    have hcb : (nth p.chunks i).body.length ≤ 60 := by simp only [Chunk.ok, Bool.and_eq_true, decide_eq_true_eq] at hc; exact hc.2
    have hs := bodyI_snoc hlt
    simp only [chunk_v] at g1
    simp [hlt, chunk_v]
    refine goCall_eq g1 (by simp) ?_
    simp
    refine ⟨by omega, by omega, Again.mk (i + 1) hlt (by omega) (Weak.of [] [(1, 1)] (by simp [hs, Packet.cells, csl]))⟩
  · obtain rfl : i = p.chunks.length := by omega
    have e8 := headP_eight p
    have e12 := headP_rest p
    rw [ha, hb, hg] at e8
    have g1 := SumText_ok ((headP p).take 8 ++ 0 :: 0 :: 0 :: 0 :: (headP p).drop 12) (by rw [e8, e12]; simp; omega)
    have hsr := sumP_rng (headP p)
    have ht : textP p = (headP p).take 8 ++ (put32 (sumP (headP p)) ++ (headP p).drop 12) := by unfold textP; rw [if_pos hp]
    have hsp : sumS ((headP p).take 8 ++ 0 :: 0 :: 0 :: 0 :: (headP p).drop 12) = sumP (headP p) := rfl
    rw [hsp] at g1
    obtain ⟨m, hm⟩ := Int.eq_ofNat_of_zero_le hsr.1
    rw [ht]
    rw [hm] at g1 ⊢
    rw [e8, e12] at g1 ⊢
    have g2 := LongPut_ok m (by omega)
    have hpm := put32_len (m : Int)
    simp at g1
    simp
    refine ⟨by omega, by omega, goCall_eq g1 (by simp) ?_⟩
    simp
    refine goCall_eq g2 (by simp) ?_
    simp
    refine ⟨by omega, by omega, Ends.mk [] [] (by simp)⟩
theorem impl_TalkValid_ok (t : Talk) (hb : t.bd) : Fn Tryz.prog fn_impl_TalkValid [t.v] [] (.bool t.ok) [] := by
  refine Fn.of_go ln_impl_TalkValid rfl ?_
  have f1 := initOk_ok t.a
  have f2 := initOk_ok t.b
  simp only [hi_v] at f1 f2
  have hbad := bad_head (t := t)
  simp [ac_impl_TalkValid, talk_v]
  cases n1 : decide (t.src < 1)
  rotate_left
  · have m := of_decide_eq_true n1
    simp; exact Ends.mk [] [] (by simp [hbad (by simp [Talk.head, inB]; omega)])
  have m1 := of_decide_eq_false n1
  simp
  cases n2 : decide (65535 < t.src)
  rotate_left
  · have m := of_decide_eq_true n2
    simp; exact Ends.mk [] [] (by simp [hbad (by simp [Talk.head, inB]; omega)])
  have m2 := of_decide_eq_false n2
  simp
  cases n3 : decide (t.dst < 1)
  rotate_left
  · have m := of_decide_eq_true n3
    simp; exact Ends.mk [] [] (by simp [hbad (by simp [Talk.head, inB]; omega)])
  have m3 := of_decide_eq_false n3
  simp
  cases n4 : decide (65535 < t.dst)
  rotate_left
  · have m := of_decide_eq_true n4
    simp; exact Ends.mk [] [] (by simp [hbad (by simp [Talk.head, inB]; omega)])
  have m4 := of_decide_eq_false n4
  simp
  cases n5 : decide (t.src = t.dst)
  rotate_left
  · have m := of_decide_eq_true n5
    simp; exact Ends.mk [] [] (by simp [hbad (by simp [Talk.head, inB, m])])
  have m5 := of_decide_eq_false n5
  simp
  refine goCall_eq f1 (by simp) ?_
  cases q4 : t.a.ok
  · simp; exact Ends.mk [] [] (by simp [hbad (by simp [Talk.head, q4])])
  simp
  refine goCall_eq f2 (by simp) ?_
  cases q5 : t.b.ok
  · simp; exact Ends.mk [] [] (by simp [hbad (by simp [Talk.head, q5])])
  simp
  cases n6 : decide (t.size < 1)
  rotate_left
  · have m := of_decide_eq_true n6
    simp; exact Ends.mk [] [] (by simp [hbad (by simp [Talk.head, inB]; omega)])
  have m6 := of_decide_eq_false n6
  simp
  cases n7 : decide (20 < t.size)
  rotate_left
  · have m := of_decide_eq_true n7
    simp; exact Ends.mk [] [] (by simp [hbad (by simp [Talk.head, inB]; omega)])
  have m7 := of_decide_eq_false n7
  simp
  have hhead : t.head = true := by simp [Talk.head, q4, q5, inB, m5]; omega
  have hz : 1 ≤ t.size ∧ t.size ≤ 20 := by omega
  obtain ⟨z, hze⟩ := Int.eq_ofNat_of_zero_le (show 0 ≤ t.size by omega)
  have hz1 : 1 ≤ z ∧ z ≤ 20 := by omega
  have hsa := hello_facts q4
  have hsb := hello_facts q5
  have hsz : t.size.toNat = z := by omega
  have hok : t.ok = (t.says.all (sayOk t) && decide (t.says.length ≤ 4) && decide (manyL z false t.says ≤ 12) && decide (manyL z true t.says ≤ 12)) := by
    simp [Talk.ok, hhead, hsz]
  cases n8 : decide (4 < t.says.length)
  rotate_left
  · have m := of_decide_eq_true n8
    have h4 : decide (t.says.length ≤ 4) = false := by simp; omega
    simp; exact Ends.mk [] [] (by simp [hok, h4])
  have m8 := of_decide_eq_false n8
  simp
  refine go_loop (fun i => { env := [(1, .ptr 1 0), (3, .ptr 3 0), (63, .sl none 4 (t.says.map Say.v)), (64, .int .i64 (t.says.length : Nat)), (65, .int .i64 (i : Nat))], loc := [], box := [(1, t.cells), (3, [.int .i64 (manyL z false (t.says.take i) : Nat), .int .i64 (manyL z true (t.says.take i) : Nat)])], stat := [] }) (fun i => i ≤ t.says.length ∧ AllTake (sayOk t) t.says i) (fun i => t.says.length - i) 0 ⟨by omega, AllTake.zero⟩ (Weak.of [] [(1, 1), (3, 3)] (by simp [Talk.cells, Hello.cells, manyL])) ?_
  rintro i ⟨hi, hp⟩
  simp [Talk.cells, Hello.cells]
  refine goTest_dec (fun hlt => ?_) (fun hge => ?_)
  · have hsay := bad_say (t := t) hlt
    have ma := manyL_take (z := z) (b := false) hlt
    have mb := manyL_take (z := z) (b := true) hlt
    have la := manyL_le hz1.1 false (m := 100000) (t.says.take i) (fun x hx => hb.text x (List.mem_of_mem_take hx))
    have lb := manyL_le hz1.1 true (m := 100000) (t.says.take i) (fun x hx => hb.text x (List.mem_of_mem_take hx))
    have hsl := hb.says
    have htx := hb.text _ (nth_mem hlt)
    have hmn := many_le (n := (nth t.says i).text.length) hz1.1
    have htd := tdiv_many (n := (nth t.says i).text.length) hz1.1
    have hlen : (t.says.take i).length = i := by simp; omega
    rw [hlen] at la lb
    have hsd : sayOk t (nth t.says i) = (inB (nth t.says i).text.length 1 60 && (if (nth t.says i).byB then inB (nth t.says i).stream 0 (t.b.streams - 1) else inB (nth t.says i).stream 0 (t.a.streams - 1))) := rfl
    simp [hlt, say_v, hze]
    generalize hx : nth t.says i = x at *
    cases hbb : x.byB
    all_goals
      simp [hbb] at ma mb hsd
      simp
      cases k1 : decide (x.text = [])
      rotate_left
      · have m := of_decide_eq_true k1
        simp; exact Ends.mk [] [] (by simp [hsay (by simp [hsd, inB, m])])
      have r1 : 1 ≤ x.text.length := List.length_pos_iff.2 (of_decide_eq_false k1)
      simp
      cases k2 : decide (60 < x.text.length)
      rotate_left
      · have m := of_decide_eq_true k2
        simp; exact Ends.mk [] [] (by simp [hsay (by simp [hsd, inB]; omega)])
      have r2 := of_decide_eq_false k2
      simp
      cases k3 : decide (x.stream < 0)
      rotate_left
      · have m := of_decide_eq_true k3
        simp; exact Ends.mk [] [] (by simp [hsay (by simp [hsd, inB]; omega)])
      have r3 := of_decide_eq_false k3
      simp
      refine goTest_dec (fun m => ?_) (fun m4 => ?_)
      · simp; exact Ends.mk [] [] (by simp [hsay (by simp [hsd, inB]; omega)])
      simp [hze, htd]
      refine ⟨by omega, by omega, by omega, by omega, by omega, Again.mk (i + 1) ⟨hlt, hp.succ hlt (by rw [hx, hsd]; simp [inB]; omega)⟩ (by omega) (Weak.of [] [(1, 1), (3, 3)] (by simp [Talk.cells, Hello.cells, hze, ma, mb]))⟩
  · obtain rfl : i = t.says.length := by omega
    have hall := hp.all
    have h4 : decide (t.says.length ≤ 4) = true := by simp; omega
    rw [hok, hall, h4]
    simp
    cases q1 : decide (manyL z false t.says ≤ 12)
    · simp
      exact Ends.mk [] [] (by simp)
    · simp
      exact Ends.mk [] [] (by simp)
end
section
set_option maxRecDepth 200000
set_option maxHeartbeats 8000000
attribute [-simp] List.getD_eq_getElem?_getD
def tpV (b : Bool) (d : Part) : V := .agg [.bool b, .int .i64 d.tsn, .int .i64 d.stream, .int .i64 d.ssn, .bool d.first, .bool d.last, .bool d.loose, .str d.text]
def listJ (t : Talk) (j : Nat) : V := .sl none 8 ((partsJ t j).map (tpV (nth t.says j).byB))
def outI (t : Talk) (i : Nat) : List V := (List.range i).map (listJ t)
theorem outI_len (t : Talk) (i : Nat) : (outI t i).length = i := by simp [outI]
theorem outI_succ (t : Talk) (i : Nat) : outI t (i + 1) = outI t i ++ [listJ t i] := by simp [outI, List.range_succ]
theorem talk_stream {t : Talk} (h : t.ok = true) : ∀ x ∈ t.says, 0 ≤ x.stream ∧ x.stream ≤ 3 := by
  have hc := talk_c h
  obtain ⟨sa, _, _, _, hsa⟩ := hello_facts hc.a
  obtain ⟨sb, _, _, _, hsb⟩ := hello_facts hc.b
  have ha := hello_facts hc.a
  have hb := hello_facts hc.b
  simp only [Talk.ok, Bool.and_eq_true, List.all_eq_true] at h
  intro x hx
  have := h.1.1.1.2 x hx
  simp only [sayOk, Bool.and_eq_true] at this
  have h2 := this.2
  revert h2
  cases x.byB <;> simp [inB] <;> omega
def intsV (l : List Int) : List V := l.map fun n => V.int .i64 n
def two (b : Bool) (u w : Int) : List V := if b then [.int .i64 w, .int .i64 u] else [.int .i64 u, .int .i64 w]
def tsnI (t : Talk) (b : Bool) (i : Nat) : Int := addS (t.tsn b) (partsI t b i).length
theorem map_put {l : List Int} {k : Nat} {v : Int} (h : k < l.length) : (l.map fun n => V.int .i64 n).take k ++ V.int .i64 v :: (l.map fun n => V.int .i64 n).drop (k + 1) = (l.set k v).map fun n => V.int .i64 n := by
  have := map_set (f := fun n => V.int .i64 n) (v := v) h
  simpa using this
theorem relCs_ints {M : Mp} {S : Stats} {E : Option (List Nat)} {B : Bm} : ∀ l : List Int, relCs M S E B (l.map fun n => V.int .i64 n) (l.map fun n => V.int .i64 n) = True
  | [] => by simp
  | x :: r => by
    have := relCs_ints (M := M) (S := S) (E := E) (B := B) r
    simp [this]
theorem relCs_set {M : Mp} {S : Stats} {E : Option (List Nat)} {B : Bm} (l : List Int) (k : Nat) (v : Int) : relCs M S E B ((l.map fun n => V.int .i64 n).set k (.int .i64 v)) ((l.map fun n => V.int .i64 n).set k (.int .i64 v)) = True := by
  have := relCs_ints (M := M) (S := S) (E := E) (B := B) (l.set k v)
  rwa [List.map_set] at this
theorem ssn_le (l : List Part) (s : Int) : ssnN l s ≤ l.length := List.length_filter_le _ _
theorem nth_set_same {l : List Int} {k : Nat} {v : Int} (h : k < l.length) : nth (l.set k v) k = v := by rw [nth_eq (by simpa using h)]; simp
theorem nth_set_ne {l : List Int} {j k : Nat} {v : Int} (h : j ≠ k) : nth (l.set j v) k = nth l k := by
  unfold nth
  rw [List.getD_eq_getElem?_getD, List.getD_eq_getElem?_getD, List.getElem?_set, if_neg h]
theorem partsOf_ok (t : Talk) (h : t.ok = true) : Fn Tryz.prog fn_impl_partsOf [t.v] [] (.sl (some 0) 1 (outI t t.says.length)) [] := by
  refine Fn.of_go ln_impl_partsOf rfl ?_
  have hc := talk_c h
  have hz := hc.size
  obtain ⟨z, hze⟩ := Int.eq_ofNat_of_zero_le (show 0 ≤ t.size by omega)
  have hz1 : 1 ≤ z ∧ z ≤ 20 := by omega
  have hsz : t.size.toNat = z := by omega
  have ha := hello_facts hc.a
  have hbF := hello_facts hc.b
  have hta : 0 ≤ t.a.tsn ∧ t.a.tsn ≤ 65535 := by omega
  have htb : 0 ≤ t.b.tsn ∧ t.b.tsn ≤ 65535 := by omega
  have hss := hc.says
  have e0 : ∀ b, partsI t b 0 = [] := fun b => by simp [partsI]
  have ta0 : tsnI t false 0 = t.a.tsn := by unfold tsnI; rw [e0]; exact addS_zero hta
  have tb0 : tsnI t true 0 = t.b.tsn := by unfold tsnI; rw [e0]; exact addS_zero htb
  simp [ac_impl_partsOf, talk_v]
  refine go_loop (fun y : Nat × List Int => { env := [(1, .ptr 1 0), (3, .sl (some 0) 1 (outI t y.1)), (4, .ptr 4 0), (5, .ptr 5 0), (23, .sl none 4 (t.says.map Say.v)), (24, .int .i64 (t.says.length : Nat)), (25, .int .i64 (y.1 : Nat))], loc := [], box := [(1, t.cells), (4, two false (tsnI t false y.1) (tsnI t true y.1)), (5, intsV y.2)], stat := [(0, some (.own y.1 1))] })
    (fun y => y.1 ≤ t.says.length ∧ y.2.length = 8 ∧ ∀ (b : Bool) (s : Nat), s < 4 → nth y.2 ((if b then 4 else 0) + s) = ssnN (partsI t b y.1) s) (fun y => t.says.length - y.1) (0, [0, 0, 0, 0, 0, 0, 0, 0])
    ⟨by simp, rfl, fun b s hs => by
      rw [e0]
      have : ∀ (b : Bool) (s : Fin 4), nth ([0, 0, 0, 0, 0, 0, 0, 0] : List Int) ((if b then 4 else 0) + s.val) = 0 := by decide
      exact this b ⟨s, hs⟩⟩
    (Weak.of [(0, some 208, 0, 1)] [(1, 1), (4, 4), (5, 5)] (by simp [Talk.cells, Hello.cells, two, intsV, ta0, tb0, outI])) ?_
  rintro ⟨i, nx⟩ ⟨hi, hn8, hnx⟩
  simp only at hi hn8 hnx
  simp [Talk.cells, Hello.cells]
  refine goTest_dec (fun hlt => ?_) (fun hge => ?_)
  rotate_left
  · obtain rfl : i = t.says.length := by omega
    simp
    exact Ends.mk [(0, some 0, t.says.length, 1)] [] (by simp [outI_len])
  have hxs := talk_stream h _ (nth_mem hlt)
  have htx := hc.text _ (nth_mem hlt)
  have hst := fun b s => ssn_step hc hlt b s
  have hsame := partsI_same hlt
  have hoth := fun b => partsI_other (b := b) hlt
  have hle := partsI_len hc (nth t.says i).byB i
  rw [hsz, manyL_drop hlt, if_pos rfl] at hle
  have hpj : partsJ t i = piecesN z (t.tsn (nth t.says i).byB) (nth t.says i) (ssnF (nth t.says i) (partsI t (nth t.says i).byB i)) (nth t.says i).text.length 0 (partsI t (nth t.says i).byB i).length := by unfold partsJ; rw [hsz]
  have hlj : listJ t i = .sl none 8 ((partsJ t i).map (tpV (nth t.says i).byB)) := rfl
  obtain ⟨sn, hsn⟩ := Int.eq_ofNat_of_zero_le hxs.1
  have hsn4 : sn < 4 := by omega
  simp [hlt, say_v]
  generalize hx : nth t.says i = x at *
  rw [hsn]
  have hk0 : sn < nx.length := by omega
  have hk4 : 4 + sn < nx.length := by omega
  have hn0 := hnx false sn hsn4
  have hn4 := hnx true sn hsn4
  simp at hn0 hn4
  have hle0 := partsI_len hc false i
  have hle1 := partsI_len hc true i
  have hs0 := ssn_le (partsI t false i) sn
  have hs1 := ssn_le (partsI t true i) sn
  -- the numbers behind this message
  obtain ⟨nx2, hnx2⟩ : ∃ nx2, nx2 = if x.loose then nx else nx.set ((if x.byB then 4 else 0) + sn) (nth nx ((if x.byB then 4 else 0) + sn) + 1) := ⟨_, rfl⟩
  have hl2 : nx2.length = 8 := by rw [hnx2]; split <;> simp [hn8]
  have hv2 : ∀ (b : Bool) (s : Nat), s < 4 → nth nx2 ((if b then 4 else 0) + s) = ssnN (partsI t b (i + 1)) s := by
    intro b s hs
    rw [hst b s, hnx2, hsn]
    have h0 := hnx b s hs
    cases hl : x.loose
    · simp only [Bool.false_eq_true, if_false]
      by_cases e : (if x.byB then 4 else 0) + sn = (if b then 4 else 0) + s
      · rw [e, nth_set_same (by rw [hn8]; cases b <;> simp <;> omega), h0]
        have : x.byB = b ∧ True ∧ (sn : Int) = s := by
          revert e
          cases x.byB <;> cases b <;> simp <;> omega
        rw [if_pos this]
        simp
      · rw [nth_set_ne e, h0]
        have : ¬ (x.byB = b ∧ True ∧ (sn : Int) = s) := by
          rintro ⟨rfl, _, q⟩
          exact e (by omega)
        rw [if_neg this]
        simp
    · simp only [if_true]
      rw [h0]
      simp
  have hss2 : ssnF x (partsI t x.byB i) = if x.loose then 0 else nth nx ((if x.byB then 4 else 0) + sn) := by
    unfold ssnF
    rw [hsn]
    have := hnx x.byB sn hsn4
    rw [this]
  have hfirst : 0 ≤ t.tsn x.byB ∧ t.tsn x.byB ≤ 65535 := by cases x.byB <;> simp [Talk.tsn] <;> omega
  have hto : tsnI t (!x.byB) (i + 1) = tsnI t (!x.byB) i := by unfold tsnI; rw [hoth _ (by cases x.byB <;> simp)]
  have hts : tsnI t x.byB i = addS (t.tsn x.byB) ((partsI t x.byB i).length : Nat) := rfl
  have hts2 : tsnI t x.byB (i + 1) = addS (t.tsn x.byB) (((partsI t x.byB i).length + (partsJ t i).length : Nat)) := by unfold tsnI; rw [hsame, List.length_append]
  generalize hssn : ssnF x (partsI t x.byB i) = ssn at *
  generalize t.tsn x.byB = first at *
  generalize hn0' : (partsI t x.byB i).length = n0 at *
  cases hb : x.byB <;> cases hl : x.loose
  all_goals
    simp only [hb, hl, Bool.false_eq_true, if_false, if_true, Bool.not_false, Bool.not_true] at hnx2 hss2 hto hts hts2 hle hlj hsame
    simp [intsV, hk0, hk4, hsn4, hl]
    repeat' (first | (refine And.intro (by omega) ?_))
    refine go_loop (fun y : Nat × List Part => { env := [(1, .ptr 1 0), (3, .sl (some 0) 1 (outI t i)), (4, .ptr 4 0), (5, .ptr 5 0), (7, .ptr 7 0), (8, .int .i64 (if x.byB then 1 else 0)), (9, .int .i64 ssn), (10, .sl (some 1) 8 (y.2.map (tpV x.byB))), (11, .int .i64 (y.1 : Nat)), (23, .sl none 4 (t.says.map Say.v)), (24, .int .i64 (t.says.length : Nat)), (25, .int .i64 (i : Nat))], loc := [], box := [(1, t.cells), (4, two x.byB (addS first ((n0 + y.2.length : Nat))) (tsnI t (!x.byB) i)), (5, intsV nx2), (7, x.cells)], stat := [(0, some (.own i 1)), (1, some (.own y.2.length 8))] })
      (fun y => y.1 ≤ x.text.length + z ∧ (∃ f, x.text.length - y.1 ≤ f ∧ y.2 ++ piecesN z first x ssn f y.1 (n0 + y.2.length) = partsJ t i) ∧ n0 + y.2.length + manyN (x.text.length - y.1) z ≤ 12) (fun y => x.text.length + z - y.1) (0, [])
      ⟨by simp, ⟨x.text.length, by simp, by simp [hpj]⟩, by simp; omega⟩ (Weak.of [(0, some 0, i, 1), (1, some 784, 0, 8)] [(1, 1), (4, 4), (5, 5), (7, 7)] (by simp [Talk.cells, Hello.cells, Say.cells, two, intsV, hb, hl, hts, hnx2, hss2, outI_len, map_put hk0, map_put hk4, relCs_ints, relCs_set, hsn])) ?_
    rintro ⟨j, acc⟩ ⟨h1, ⟨f, hf, hp⟩, h3⟩
    simp only at h1 hf hp h3
    simp [Talk.cells, Hello.cells, Say.cells, two, hb, intsV]
    refine goTest_dec (fun hj => ?_) (fun hj => ?_)
    rotate_left
    · have he : piecesN z first x ssn f j (n0 + acc.length) = [] := by
        cases f with
        | zero => rfl
        | succ f => unfold piecesN; rw [if_neg (by omega)]
      rw [he, List.append_nil] at hp
      rw [← hp] at hlj hts2
      have hv0 := hv2 false
      have hv1 := hv2 true
      simp at hv0 hv1
      simp
      exact ⟨⟨by unfold roomOk; rw [outI_len]; omega, outI_len t i⟩, by omega, Again.mk (i + 1, nx2) (by simp; exact ⟨hlt, hl2, hv0, hv1⟩) (by simp; omega) (Weak.of [(0, some 0, i + 1, 1)] [(1, 1), (4, 4), (5, 5)] (by simp [Talk.cells, Hello.cells, two, intsV, outI_len, outI_succ, hlj, hto, hts2, relCs_ints]))⟩
    obtain ⟨g, rfl⟩ : ∃ g, f = g + 1 := ⟨f - 1, by omega⟩
    rw [many_step hz1.1 hj] at h3
    obtain ⟨e, he⟩ : ∃ e, min (j + z) x.text.length = e := ⟨_, rfl⟩
    have he2 : (if (x.text.length : Int) < (j : Int) + z then (x.text.length : Int) else (j : Int) + z) = (e : Nat) := by split <;> omega
    rw [piecesN, if_pos hj, he] at hp
    have hr := addS_rng first ((n0 + acc.length : Nat) : Int)
    have hadd := SerialAdd_ok (addS first ((n0 + acc.length : Nat) : Int)) 1 (by omega)
    have hin : inS (addS first ((n0 + acc.length : Nat) : Int)) = true := by unfold inS; rw [decide_eq_true hr.1, decide_eq_true (show addS first ((n0 + acc.length : Nat) : Int) < 65536 by omega)]; rfl
    rw [hin, if_pos rfl, ← addS_one first (n0 + acc.length) hfirst] at hadd
    simp at hadd
    simp [hze, he2]
    refine ⟨by omega, by omega, by unfold roomOk; omega, goCall_eq hadd (by simp) ?_⟩
    simp
    refine ⟨by omega, Again.mk (j + z, acc ++ [⟨addS first ((n0 + acc.length : Nat) : Int), x.stream, ssn, decide (j = 0), decide (e = x.text.length), x.loose, (x.text.take e).drop j⟩]) ?_ (by simp; omega) (Weak.of [(0, some 0, i, 1), (1, some 1, acc.length + 1, 8)] [(1, 1), (4, 4), (5, 5), (7, 7)] ?_)⟩
    · simp only [List.length_append, List.length_cons, List.length_nil]
      refine ⟨by omega, ⟨g, by omega, ?_⟩, by omega⟩
      rw [List.append_assoc]
      exact hp
    · simp [Talk.cells, Hello.cells, Say.cells, two, intsV, hb, hl, relCs_ints, tpV, hze, outI_len, Int.add_assoc]
end
section
set_option maxRecDepth 200000
set_option maxHeartbeats 8000000
attribute [-simp] List.getD_eq_getElem?_getD
theorem opt_get (o : Option Chunk) : optV zChunk.v Chunk.v o = .tup [(o.getD zChunk).v, .bool o.isSome] := by cases o <;> rfl
theorem packT_v (t : Talk) (b : Bool) (l : List Chunk) : (packT t b l).v = .agg [.int .i64 (if b then t.dst else t.src), .int .i64 (if b then t.src else t.dst), .int .i64 (if b then t.a.tag else t.b.tag), .sl none 3 (l.map Chunk.v)] := by cases b <;> rfl
theorem l41Packet_ok (t : Talk) (b : Bool) (l : List Chunk) : Fn Tryz.prog fn_spec_l41Packet [t.v, .bool b, .sl none 3 (l.map Chunk.v)] [] (packT t b l).v [] := by
  refine Fn.of_go ln_spec_l41Packet rfl ?_
  rw [packT_v]
  cases b
  · simp [ac_spec_l41Packet, talk_v]
    exact Ends.mk [] [] (by simp)
  · simp [ac_spec_l41Packet, talk_v]
    exact Ends.mk [] [] (by simp)
theorem l41One_ok (t : Talk) (b : Bool) (k : Int) : Fn Tryz.prog fn_spec_l41One [t.v, .bool b, .int .i64 k] [] (oneT t b k).v [] := by
  refine Fn.of_go ln_spec_l41One rfl ?_
  have f1 := l41Packet_ok t b [⟨k, 0, []⟩]
  have e : oneT t b k = packT t b [⟨k, 0, []⟩] := rfl
  rw [e, packT_v]
  rw [packT_v] at f1
  simp only [talk_v] at f1
  simp [ac_spec_l41One, talk_v]
  refine goCall_gen [] [] [176] [] none f1 (by simp [chunk_v]) ?_
  simp
  exact Ends.mk [] [] (by simp)
theorem oneT_v (t : Talk) (b : Bool) (k : Int) : (oneT t b k).v = .agg [.int .i64 (if b then t.dst else t.src), .int .i64 (if b then t.src else t.dst), .int .i64 (if b then t.a.tag else t.b.tag), .sl none 3 [.agg [.int .i64 k, .int .i64 0, .str []]]] := by cases b <;> rfl
theorem l41Hello_ok (t : Talk) : Fn Tryz.prog fn_spec_l41Hello [t.v] [] (.sl (some 0) 4 ((helloT t).map Packet.v)) [] := by
  refine Fn.of_go ln_spec_l41Hello rfl ?_
  have p1 := spec_InitPut_ok t.a false
  have p2 := spec_InitPut_ok t.b true
  rw [opt_get] at p1 p2
  have e : (helloT t).map Packet.v = [.agg [.int .i64 t.src, .int .i64 t.dst, .int .i64 0, .sl none 3 [((putHello t.a false).getD zChunk).v]], (packT t true [(putHello t.b true).getD zChunk]).v, (oneT t false 10).v, (oneT t true 11).v] := rfl
  rw [e]
  generalize (putHello t.a false).getD zChunk = c1 at *
  generalize (putHello t.b true).getD zChunk = c2 at *
  have f1 := l41Packet_ok t false [c1]
  have f2 := l41Packet_ok t true [c2]
  have f3 := l41One_ok t false 10
  have f4 := l41One_ok t true 11
  rw [packT_v] at f1 f2
  rw [oneT_v] at f3 f4
  rw [packT_v, oneT_v, oneT_v]
  simp only [talk_v, hi_v, chunk_v] at p1 p2 f1 f2 f3 f4
  simp [ac_spec_l41Hello, talk_v]
  refine goCall_eq p1 (by simp) ?_
  simp
  refine goCall_eq p2 (by simp) ?_
  simp
  refine goCall_gen [] [] [352] [] none f1 (by simp [chunk_v]) ?_
  simp
  refine goDCall_gen [] [] [448] [] none f2 (by simp [chunk_v]) (by simp) ?_
  simp
  refine goDCall_eq f3 (by simp) (by simp) ?_
  simp
  refine goDCall_eq f4 (by simp) (by simp) ?_
  simp
  exact Ends.mk [(0, some 544, 4, 4)] [] (by simp [chunk_v])
end
end Go.Proofs.YtjkbbdmkgealfaaGreatDoor
