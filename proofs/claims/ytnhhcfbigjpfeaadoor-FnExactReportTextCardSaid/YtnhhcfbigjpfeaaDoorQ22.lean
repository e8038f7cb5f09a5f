/-
  The laws of a step, in plain terms.
  Monitors, in plain terms: what a record does, and what it keeps.
-/
import Derived.Test.YtnhhcfbigjpfeaaDoorQ21
import Derived.Test.YtnhhcfbigjpfeaaDoorQ20
namespace Go.Proofs.YtnhhcfbigjpfeaaDoor
set_option linter.all false

section
set_option maxRecDepth 20000
set_option maxHeartbeats 1000000
attribute [-simp] List.getD_eq_getElem?_getD

theorem stepC_hello {x : Assoc} {byB : Bool} {c : Chunk} (hk : c.kind = 1 ∨ c.kind = 2) : stepC x byB c = stepHello x byB c := by unfold stepC; rw [if_pos hk]
/-- What is known of an open association. -/
structure OpenA (x : Assoc) : Prop where
  ok : x.ok = true
  four : x.state = 4
  tag : x.a.tag ≠ 0
  streams : 1 ≤ x.a.streams ∧ x.a.streams ≤ 4
  first : 0 ≤ x.a.first ∧ x.a.first ≤ 65535
  len : x.a.sent.length ≤ 12
  acked : 0 ≤ x.a.acked ∧ x.a.acked ≤ x.a.sent.length
  parts : allTo (partAt x.a) x.a.sent.length = true

/-! ## The beginning -/

def newA (s d : Int) : Assoc := ⟨s, d, 0, false, zSide, zSide⟩

theorem newA_ok {s d : Int} : (newA s d).ok = true ↔ (1 ≤ s ∧ s ≤ 65535) ∧ (1 ≤ d ∧ d ≤ 65535) ∧ s ≠ d := by
  rw [assoc_iff]
  constructor
  · rintro ⟨h1, h2, h3, -⟩; exact ⟨h1, h2, h3⟩
  · rintro ⟨h1, h2, h3⟩
    exact ⟨h1, h2, h3, by simp [newA], rfl, rfl, by simp [newA, zSide], by simp [newA, zSide], by simp [newA, zSide], by simp [newA]⟩

theorem step_begin {s d : Int} {x : Hello} {c : Chunk} (hm : mineS (newA s d) ⟨s, d, 0, [c]⟩ = true) (hk : c.kind = 1) (hg : getHello c = some x) : stepS (newA s d) ⟨s, d, 0, [c]⟩ = (⟨s, d, 1, false, ⟨x.tag, x.streams, x.tsn, [], 0⟩, zSide⟩, []) := by
  obtain ⟨h1, h2, h3⟩ := mine_iff.1 hm
  have hb : byBS (newA s d) ⟨s, d, 0, [c]⟩ = false := by
    have := (newA_ok.1 h1).2.2
    exact decide_eq_false fun e => this e.1
  have hc : stepC (newA s d) false c = (⟨s, d, 1, false, ⟨x.tag, x.streams, x.tsn, [], 0⟩, zSide⟩, 0) := by
    rw [stepC_hello (Or.inl hk), stepHello_F h1 (Or.inl hk), if_neg (by omega), if_neg (by simp [newA]), hg]
    simp only
    rw [if_pos (show (newA s d).state = 0 from rfl)]
    rfl
  have ht : (⟨s, d, 0, [c]⟩ : Packet).tag = tagS (newA s d) false ⟨s, d, 0, [c]⟩ := by
    unfold tagS; rw [if_pos (by simp [hk])]
  rw [stepS_mine hm, hb, rules_one (c := c) rfl (alone_one (c := c) rfl h2) ht, hc]
  simp [stepAll, hc]

/-! ## What was said -/

/-- The text before a part. -/
def keptT (d : Part) (t : List UInt8) : List UInt8 := if d.first then [] else t
def saidF : List Part → List UInt8 → List Msg
  | [], _ => []
  | d :: r, t => if d.last then ⟨d.stream, d.ssn, d.loose, keptT d t ++ d.text⟩ :: saidF r (keptT d t ++ d.text) else saidF r (keptT d t ++ d.text)

def saidS (s : Side) : List Msg := if s.ok then saidF s.sent [] else []
def knownS (s : Side) : List Msg := if s.ok then saidF (s.sent.take s.acked.toNat) [] else []

end

section
set_option maxRecDepth 20000
set_option maxHeartbeats 1000000
attribute [-simp] List.getD_eq_getElem?_getD

def Assoc.ports (x : Assoc) : Int × Int := (x.src, x.dst)
def meet (p q : Int × Int) : Bool := (decide (p.1 = q.1) && decide (p.2 = q.2)) || (decide (p.1 = q.2) && decide (p.2 = q.1))

theorem meet_comm (p q : Int × Int) : meet p q = meet q p := by
  rw [Bool.eq_iff_iff]; simp [meet]; omega
def listAt (l : List Assoc) (i : Nat) : Bool := (nth l i).ok && decide ((nth l i).state ≠ 0) && allTo (fun k => !meet (nth l k).ports (nth l i).ports) i
def Monitor.ok (m : Monitor) : Bool := allTo (listAt m.list) m.list.length && fsOk m.records m.found && inB m.records 0 60 && decide (m.list.length ≤ 3)

structure MonOk (m : Monitor) : Prop where
  recs : 0 ≤ m.records ∧ m.records ≤ 60
  len : m.list.length ≤ 3
  each : ∀ x ∈ m.list, x.ok = true ∧ x.state ≠ 0
  apart : (m.list.map Assoc.ports).Pairwise fun p q => meet p q = false
  found : fsOk m.records m.found = true

theorem mon_iff {m : Monitor} : m.ok = true ↔ MonOk m := by
  simp only [Monitor.ok, inB, Bool.and_eq_true, decide_eq_true_eq]
  constructor
  · rintro ⟨⟨⟨h1, h2⟩, h3⟩, h4⟩
    rw [allTo_iff] at h1
    refine ⟨h3, h4, fun x hx => ?_, ?_, h2⟩
    · obtain ⟨i, hi, rfl⟩ := List.getElem_of_mem hx
      have := h1 i hi
      simp only [listAt, Bool.and_eq_true, decide_eq_true_eq] at this
      rw [nth_eq hi] at this
      exact this.1
    · rw [List.pairwise_map, List.pairwise_iff_getElem]
      intro i j hi hj hij
      have := h1 j hj
      simp only [listAt, Bool.and_eq_true] at this
      have := allTo_iff.1 this.2 i hij
      rw [nth_eq hi, nth_eq hj] at this
      simpa using this
  · intro h
    refine ⟨⟨⟨?_, h.found⟩, h.recs⟩, h.len⟩
    rw [allTo_iff]
    intro j hj
    simp only [listAt, Bool.and_eq_true, decide_eq_true_eq]
    refine ⟨?_, allTo_iff.2 fun i hij => ?_⟩
    · rw [nth_eq hj]; exact h.each _ (List.getElem_mem _)
    · have hi : i < m.list.length := by omega
      have := h.apart
      rw [List.pairwise_map, List.pairwise_iff_getElem] at this
      have := this i j hi hj hij
      rw [nth_eq hi, nth_eq hj]
      simpa using this

/-- The place of the association between two ports. -/
def findM (l : List Assoc) (a b : Int) : Option Nat := l.findIdx? fun x => meet x.ports (a, b)

def restartS (l : List Assoc) (p : Packet) (i : Nat) : Bool := decide ((nth l i).state = 7) && decide ((nth p.chunks 0).kind = 1) && p.alone && decide (p.tag = 0) && (getHello (nth p.chunks 0)).isSome

/-- What a packet does with the associations, and what is told. -/
def beginL (l : List Assoc) (p : Packet) : List Assoc × List Int :=
  if (nth p.chunks 0).kind ≠ 1 then (l, [104]) else
  if (stepS (newA p.src p.dst) p).2 ≠ [] then (l, (stepS (newA p.src p.dst) p).2) else
  if 3 ≤ l.length then (l, [105]) else (l ++ [(stepS (newA p.src p.dst) p).1], [])

def packL (l : List Assoc) (p : Packet) : List Assoc × List Int :=
  match findM l p.src p.dst with
  | none => beginL l p
  | some i => if restartS l p i then beginL (l.eraseIdx i) p else (l.set i (stepS (nth l i) p).1, (stepS (nth l i) p).2)

def textL (l : List Assoc) (t : List UInt8) : List Assoc × List Int :=
  if (getP t).2 ≠ 0 then (l, [100 + (getP t).2]) else packL l (getP t).1

theorem getP_ok {t : List UInt8} (h : (getP t).2 = 0) : (getP t).1.ok = true := by
  unfold getP at h ⊢
  split at h
  · exact absurd h (by simp)
  split at h
  · exact absurd h (by simp)
  rename_i q1 q2
  rw [if_neg q1, if_neg q2]
  cases hc : chunksAt t t.length 12 [] with
  | none => rw [hc] at h; exact absurd h (by simp)
  | some cs =>
    rw [hc] at h
    simp only at h ⊢
    split at h
    · rename_i q3; rw [if_pos q3]; exact q3
    · exact absurd h (by simp)

theorem findM_some {l : List Assoc} {a b : Int} {i : Nat} (h : findM l a b = some i) : i < l.length ∧ meet (nth l i).ports (a, b) = true := by
  unfold findM at h
  rw [List.findIdx?_eq_some_iff_getElem] at h
  obtain ⟨h1, h2, _⟩ := h
  exact ⟨h1, by rw [nth_eq h1]; exact h2⟩

theorem findM_none {l : List Assoc} {a b : Int} (h : findM l a b = none) : ∀ x ∈ l, meet x.ports (a, b) = false := by
  unfold findM at h
  rw [List.findIdx?_eq_none_iff] at h
  exact h

/-! ## Associations stay apart -/

structure ListOk (l : List Assoc) : Prop where
  each : ∀ x ∈ l, x.ok = true ∧ x.state ≠ 0
  apart : (l.map Assoc.ports).Pairwise fun p q => meet p q = false

theorem byports {x : Assoc} {p : Packet} (hx : x.ok = true) (hp : p.ok = true) (h : meet x.ports (p.src, p.dst) = true) : mineS x p = true := by
  refine mine_iff.2 ⟨hx, hp, ?_⟩
  simp only [meet, Assoc.ports, Bool.or_eq_true, Bool.and_eq_true, decide_eq_true_eq] at h
  rcases h with h | h
  · right; exact ⟨(of_decide_eq_true h.1).symm, (of_decide_eq_true h.2).symm⟩
  · left; exact ⟨(of_decide_eq_true h.2).symm, (of_decide_eq_true h.1).symm⟩

theorem new_mine {p : Packet} (hp : p.ok = true) : mineS (newA p.src p.dst) p = true := by
  obtain ⟨_, h1, h2, h3, _⟩ := packet_ok.1 hp
  exact mine_iff.2 ⟨newA_ok.2 ⟨h1, h2, h3⟩, hp, Or.inr ⟨rfl, rfl⟩⟩

/-- A new association has begun: the packet is an init alone. -/
theorem begun {p : Packet} (hp : p.ok = true) (hk : (nth p.chunks 0).kind = 1) (hr : (stepS (newA p.src p.dst) p).2 = []) : p.chunks.length = 1 ∧ p.tag = 0 ∧ ∃ x, getHello (nth p.chunks 0) = some x ∧ (stepS (newA p.src p.dst) p).1 = ⟨p.src, p.dst, 1, false, ⟨x.tag, x.streams, x.tsn, [], 0⟩, zSide⟩ := by
  have hm := new_mine hp
  have h1 := (packet_ok.1 hp).2.2.2.2.2.1
  have hb : byBS (newA p.src p.dst) p = false := by
    have := (packet_ok.1 hp).2.2.2.1
    exact decide_eq_false fun e => this e.1
  have hno : ∀ k, k ∉ rulesS (newA p.src p.dst) false p := by
    rw [← hb, ← stepS_rules hm, hr]; simp
  have ha : p.alone = true := by
    cases q : p.alone
    · exact absurd (rules_mem.2 ⟨by decide, Or.inl ⟨rfl, q⟩⟩) (hno 1)
    · rfl
  have hmem : nth p.chunks 0 ∈ p.chunks := nth_mem (by omega)
  have hl : p.chunks.length = 1 := by
    have := ha
    simp only [Packet.alone, Bool.and_eq_true, Bool.or_eq_true, decide_eq_true_eq, List.all_eq_true] at this
    rcases this.1 with h | h
    · omega
    · have := h _ hmem
      simp [aloneK, hk] at this
  obtain ⟨c, hc⟩ := List.length_eq_one_iff.1 hl
  have hn : nth p.chunks 0 = c := by rw [hc]; rfl
  rw [hn] at hk ⊢
  have htag : p.tag = tagS (newA p.src p.dst) false p := by
    rcases Classical.em (p.tag = tagS (newA p.src p.dst) false p) with q | q
    · exact q
    · exact absurd (rules_mem.2 ⟨by decide, Or.inr (Or.inl ⟨rfl, q⟩)⟩) (hno 2)
  have htag0 : p.tag = 0 := by
    rw [htag]; unfold tagS; rw [if_pos (by rw [hc]; simp [hk])]
  refine ⟨hl, htag0, ?_⟩
  have e : p = ⟨p.src, p.dst, 0, [c]⟩ := by rw [← htag0, ← hc]
  cases hg : getHello c with
  | some x =>
    refine ⟨x, rfl, ?_⟩
    have := step_begin (s := p.src) (d := p.dst) (x := x) (c := c) (by rw [← e]; exact hm) hk hg
    rw [← e] at this
    rw [this]
  | none =>
    exfalso
    have hs : (stepC (newA p.src p.dst) false c).2 = 4 := by
      rw [stepC_hello (Or.inl hk), stepHello_F (mine_iff.1 hm).1 (Or.inl hk), if_neg (by omega), if_neg (by simp [newA]), hg]
    have : (4 : Int) ∈ rulesS (newA p.src p.dst) false p := rules_mem.2 ⟨by decide, Or.inr (Or.inr (by rw [hc]; simp [stepAll, hs]))⟩
    exact hno 4 this

theorem ListOk.append {l : List Assoc} (h : ListOk l) {p : Packet} (hp : p.ok = true) (hn : ∀ x ∈ l, meet x.ports (p.src, p.dst) = false) (hk : (nth p.chunks 0).kind = 1) (hr : (stepS (newA p.src p.dst) p).2 = []) : ListOk (l ++ [(stepS (newA p.src p.dst) p).1]) := by
  obtain ⟨_, _, x, _, he⟩ := begun hp hk hr
  have ho := stepS_ok (new_mine hp)
  rw [he] at ho ⊢
  refine ⟨fun y hy => ?_, ?_⟩
  · rcases List.mem_append.1 hy with q | q
    · exact h.each y q
    · rw [List.mem_singleton.1 q]; exact ⟨ho, by simp⟩
  · rw [List.map_append, List.pairwise_append]
    refine ⟨h.apart, by simp, fun a ha b hb => ?_⟩
    obtain ⟨y, hy, rfl⟩ := List.mem_map.1 ha
    simp at hb
    subst hb
    exact hn y hy

theorem ListOk.begin {l : List Assoc} (h : ListOk l) {p : Packet} (hp : p.ok = true) (hn : ∀ x ∈ l, meet x.ports (p.src, p.dst) = false) : ListOk (beginL l p).1 := by
  unfold beginL
  split
  · exact h
  split
  · exact h
  split
  · exact h
  · rename_i q1 q2 q3
    exact h.append hp hn (by simpa using q1) (by simpa using q2)

theorem ListOk.erase {l : List Assoc} (h : ListOk l) (i : Nat) : ListOk (l.eraseIdx i) :=
  ⟨fun x hx => h.each x ((List.eraseIdx_sublist l i).subset hx), h.apart.sublist ((List.eraseIdx_sublist l i).map _)⟩

/-- Only one association is between two ports. -/
theorem apart_eq {l : List Assoc} (h : (l.map Assoc.ports).Pairwise fun p q => meet p q = false) {i j : Nat} (hi : i < l.length) (hj : j < l.length) (hm : meet (nth l i).ports (nth l j).ports = true) : i = j := by
  rw [List.pairwise_map, List.pairwise_iff_getElem] at h
  rw [nth_eq hi, nth_eq hj] at hm
  rcases Nat.lt_trichotomy i j with q | q | q
  · have := h i j hi hj q; rw [hm] at this; cases this
  · exact q
  · have := h j i hj hi q; rw [meet_comm, hm] at this; cases this

theorem meet_trans {a b c : Int × Int} (h1 : meet a b = true) (h2 : meet c b = true) : meet a c = true := by
  simp [meet] at *; omega

theorem mem_erase {l : List Assoc} {i : Nat} {x : Assoc} (hx : x ∈ l.eraseIdx i) : ∃ j, j < l.length ∧ j ≠ i ∧ nth l j = x := by
  rw [List.mem_eraseIdx_iff_getElem] at hx
  obtain ⟨j, hj, hne, e⟩ := hx
  exact ⟨j, hj, hne, by rw [nth_eq hj]; exact e⟩

theorem erase_far {l : List Assoc} (h : ListOk l) {a b : Int} {i : Nat} (hf : findM l a b = some i) : ∀ x ∈ l.eraseIdx i, meet x.ports (a, b) = false := by
  intro x hx
  obtain ⟨j, hj, hne, rfl⟩ := mem_erase hx
  obtain ⟨hi, hm⟩ := findM_some hf
  cases q : meet (nth l j).ports (a, b)
  · rfl
  · exact absurd (apart_eq h.apart hj hi (meet_trans q hm)) hne

theorem set_ports {l : List Assoc} {i : Nat} (hi : i < l.length) {y : Assoc} (h : y.ports = (nth l i).ports) : (l.set i y).map Assoc.ports = l.map Assoc.ports := by
  rw [List.map_set, h, nth_eq hi]
  have e : l[i].ports = (l.map Assoc.ports)[i]'(by simpa using hi) := by simp
  rw [e, List.set_getElem_self]

theorem ListOk.set {l : List Assoc} (h : ListOk l) {i : Nat} (hi : i < l.length) {y : Assoc} (hy : y.ok = true ∧ y.state ≠ 0) (hp : y.ports = (nth l i).ports) : ListOk (l.set i y) := by
  refine ⟨fun x hx => ?_, ?_⟩
  · rcases List.mem_or_eq_of_mem_set hx with q | q
    · exact h.each x q
    · rw [q]; exact hy
  · rw [set_ports hi hp]; exact h.apart

theorem ListOk.pack {l : List Assoc} (h : ListOk l) {p : Packet} (hp : p.ok = true) : ListOk (packL l p).1 := by
  unfold packL
  split
  · exact h.begin hp (findM_none ‹_›)
  · rename_i i hf
    obtain ⟨hi, hm⟩ := findM_some hf
    split
    · exact (h.erase i).begin hp (erase_far h hf)
    · have hx := h.each _ (nth_mem hi)
      have hmi := byports hx.1 hp hm
      have hk := stepS_keeps hmi
      have h0 := Assoc.ok_state hx.1
      refine h.set hi ⟨stepS_ok hmi, ?_⟩ ?_
      · have := hk.state; omega
      · simp only [Assoc.ports]; rw [hk.src, hk.dst]

theorem ListOk.text {l : List Assoc} (h : ListOk l) (t : List UInt8) : ListOk (textL l t).1 := by
  unfold textL
  split
  · exact h
  · rename_i q
    exact h.pack (getP_ok (by simpa using q))

theorem MonOk.list {m : Monitor} (h : MonOk m) : ListOk m.list := ⟨h.each, h.apart⟩

end

end Go.Proofs.YtnhhcfbigjpfeaaDoor
