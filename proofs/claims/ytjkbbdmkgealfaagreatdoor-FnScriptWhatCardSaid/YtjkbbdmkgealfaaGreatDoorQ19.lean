/-
  Messages: numbers of a serial kind, and the texts of messages by the program and by the reference.
  Chunks, parts, packets and associations, as plain data and as values.
  What the functions of chunks, parts, packets and associations compute, in plain terms.
  Numbers, serial numbers and checksums: what the functions of both sides return.
  Chunks and packets that are valid.
-/
import Derived.Test.YtjkbbdmkgealfaaGreatDoorQ18
namespace Go.Proofs.YtjkbbdmkgealfaaGreatDoor
set_option linter.all false
section
set_option maxRecDepth 20000
attribute [-simp] List.getD_eq_getElem?_getD
def inS (n : Int) : Bool := decide (0 ≤ n) && decide (n < 65536)
theorem l3Ok_ok (n : Int) : Fn Tryz.prog fn_spec_l3Ok [.int .i64 n] [] (.bool (inS n)) [] := by
  refine Fn.of_go ln_spec_l3Ok rfl ?_
  have h : inB n 0 65535 = inS n := by rw [Bool.eq_iff_iff]; simp [inB, inS]; omega
  simp [ac_spec_l3Ok]
  refine goCall_eq (l6In_ok _ _ _) (by simp) ?_
  simp [h]
  exact Ends.mk [] [] (by simp)
theorem serialOk_ok (n : Int) : Fn Tryz.prog fn_impl_serialOk [.int .i64 n] [] (.bool (inS n)) [] := by
  refine Fn.of_go ln_impl_serialOk rfl ?_
  simp [ac_impl_serialOk]
  refine goTest_dec (fun h => ?_) (fun h => ?_) <;> simp [h]
  · exact Ends.mk [] [] (by simp [inS, h])
  · exact Ends.mk [] [] (by simp [inS, h])
structure Msg where
  stream : Int
  ssn : Int
  loose : Bool
  text : List UInt8
def mV (m : Msg) : V := .agg [.int .i64 m.stream, .int .i64 m.ssn, .bool m.loose, .str m.text]
theorem itoa_dec (n : Nat) : Lib.itoa n = decS n := by
  have h : ∀ n, Lib.decDigits n = decS n := fun n => by
    induction n using Nat.strongRecOn with
    | _ n ih =>
      rw [Lib.decDigits, decS]
      split
      · rfl
      · rw [ih (n / 10) (by omega)]
  unfold Lib.itoa
  rw [if_neg (by omega), Int.toNat_natCast, h]
def msgT (m : Msg) : List UInt8 := if inS m.stream && inS m.ssn then decS m.stream.toNat ++ [32] ++ (if m.loose then [45] else decS m.ssn.toNat) ++ [32] ++ hexS m.text else []
theorem l42Message_ok (m : Msg) (h1 : inS m.stream = true) (h2 : inS m.ssn = true) (ht : m.text.length ≤ 10000000000) : Fn Tryz.prog fn_spec_l42Message [mV m] [] (.str (decS m.stream.toNat ++ [32] ++ (if m.loose then [45] else decS m.ssn.toNat) ++ [32] ++ hexS m.text)) [] := by
  refine Fn.of_go ln_spec_l42Message rfl ?_
  simp [inS] at h1 h2
  have hl := hexS_len m.text
  obtain ⟨a, ha⟩ := Int.eq_ofNat_of_zero_le h1.1
  obtain ⟨b, hb⟩ := Int.eq_ofNat_of_zero_le h2.1
  have a1 := decS_len20 (n := a) (by omega)
  have a2 := decS_len20 (n := b) (by omega)
  simp [ac_spec_l42Message, mV, ha, hb]
  refine goTest_bool (fun h3 => ?_) (fun h3 => ?_)
  · simp [h3]
    refine goDCall_eq (decPos_ok a (by omega) (by omega)) (by simp) (by simp) ?_
    simp
    refine ⟨by omega, goDCall_eq (l1Hex_ok m.text (by omega)) (by simp) (by simp) ?_⟩
    simp
    exact ⟨by omega, Ends.mk [] [] (by simp)⟩
  · simp [h3]
    refine goDCall_eq (decPos_ok a (by omega) (by omega)) (by simp) (by simp) ?_
    simp
    refine ⟨by omega, goDCall_eq (decPos_ok b (by omega) (by omega)) (by simp) (by simp) ?_⟩
    simp
    refine ⟨by omega, by omega, goDCall_eq (l1Hex_ok m.text (by omega)) (by simp) (by simp) ?_⟩
    simp
    exact ⟨by omega, Ends.mk [] [] (by simp)⟩
theorem impl_MessageText_ok (m : Msg) (ht : m.text.length ≤ 10000000000) : Fn Tryz.prog fn_impl_MessageText [mV m] [] (.str (msgT m)) [] := by
  refine Fn.of_go ln_impl_MessageText rfl ?_
  simp [ac_impl_MessageText, mV]
  refine goCall_eq (serialOk_ok m.stream) (by simp) ?_
  simp
  refine goTest_bool (fun h1 => ?_) (fun h1 => ?_)
  · simp [h1]
    refine goCall_eq (serialOk_ok m.ssn) (by simp) ?_
    simp
    refine goTest_bool (fun h2 => ?_) (fun h2 => ?_)
    · simp [h2]
      have q1 := h1
      have q2 := h2
      simp [inS] at q1 q2
      have hl := hexS_len m.text
      obtain ⟨a, ha⟩ := Int.eq_ofNat_of_zero_le q1.1
      obtain ⟨b, hb⟩ := Int.eq_ofNat_of_zero_le q2.1
      have a1 := decS_len20 (n := a) (by omega)
      have a2 := decS_len20 (n := b) (by omega)
      have i1 := Itoa_ok (a : Int) (by omega) (by omega)
      have i2 := Itoa_ok (b : Int) (by omega) (by omega)
      rw [itoa_dec] at i1 i2
      have g1 : inS (a : Int) = true := by rw [← ha]; exact h1
      have g2 : inS (b : Int) = true := by rw [← hb]; exact h2
      simp only [ha, hb]
      refine goCall_eq i2 (by simp) ?_
      simp
      refine goTest_bool (fun h3 => ?_) (fun h3 => ?_)
      · simp [h3]
        refine goDCall_eq i1 (by simp) (by simp) ?_
        simp
        refine ⟨by omega, by omega, by omega, goDCall_eq (hexOf_ok m.text (by omega)) (by simp) (by simp) ?_⟩
        simp
        exact ⟨by omega, Ends.mk [] [] (by simp [msgT, h3, ha, hb, g1, g2])⟩
      · simp [h3]
        refine goDCall_eq i1 (by simp) (by simp) ?_
        simp
        refine ⟨by omega, by omega, by omega, goDCall_eq (hexOf_ok m.text (by omega)) (by simp) (by simp) ?_⟩
        simp
        exact ⟨by omega, Ends.mk [] [] (by simp [msgT, h3, ha, hb, g1, g2])⟩
    · simp [h2]
      exact Ends.mk [] [] (by simp [msgT, h2])
  · simp [h1]
    exact Ends.mk [] [] (by simp [msgT, h1])
theorem SerialAdd_ok (a n : Int) (hn : 0 ≤ n ∧ n < 1000000000000) : Fn Tryz.prog fn_impl_SerialAdd [.int .i64 a, .int .i64 n] [] (.int .i64 (if inS a then (a + n) % 65536 else -1)) [] := by
  refine Fn.of_go ln_impl_SerialAdd rfl ?_
  simp [ac_impl_SerialAdd]
  refine goCall_eq (serialOk_ok a) (by simp) ?_
  simp
  refine goTest_bool (fun h => ?_) (fun h => ?_)
  · simp [h]
    have q1 := h
    simp [inS] at q1
    have e0 : n.tmod 65536 = n % 65536 := Int.tmod_eq_emod_of_nonneg (by omega)
    have e1 : (a + n % 65536).tmod 65536 = (a + n % 65536) % 65536 := Int.tmod_eq_emod_of_nonneg (by omega)
    have e2 : ((a + n % 65536) % 65536 + 65536).tmod 65536 = (a + n) % 65536 := by
      rw [Int.tmod_eq_emod_of_nonneg (by omega)]; omega
    rw [e0, e1]
    refine ⟨by omega, by omega, ?_⟩
    rw [e2]
    exact Ends.mk [] [] (by simp [h])
  · simp [h]
    exact Ends.mk [] [] (by simp [h])
inductive IntR (src : List UInt8) (a k : Int) (lo hi : Int) : V → List (List V) → Prop
  | mk (n b : Int) (h : lo ≤ n ∧ n ≤ hi) (hb : a ≤ b ∧ b ≤ a + k) : IntR src a k lo hi (.int .i64 n) [[bsl src, .int .i64 b]]
inductive MsgR : V → List (List V) → Prop
  | mk (m : Msg) (h : m.text.length ≤ 8) (h2 : -1 ≤ m.ssn ∧ m.ssn ≤ 65791) (h3 : -1 ≤ m.stream ∧ m.stream ≤ 65791) : MsgR (mV m) []
end
section
attribute [-simp] List.getD_eq_getElem?_getD
structure Part where
  tsn : Int
  stream : Int
  ssn : Int
  first : Bool
  last : Bool
  loose : Bool
  text : List UInt8
deriving DecidableEq, Inhabited
def Part.cells (d : Part) : List V := [.int .i64 d.tsn, .int .i64 d.stream, .int .i64 d.ssn, .bool d.first, .bool d.last, .bool d.loose, .str d.text]
def Part.v (d : Part) : V := .agg d.cells
def psl (l : List Part) : V := .sl none 7 (l.map Part.v)
structure Chunk where
  kind : Int
  flags : Int
  body : List UInt8
deriving DecidableEq, Inhabited
def Chunk.cells (c : Chunk) : List V := [.int .i64 c.kind, .int .i64 c.flags, .str c.body]
def Chunk.v (c : Chunk) : V := .agg c.cells
def csl (l : List Chunk) : V := .sl none 3 (l.map Chunk.v)
structure Packet where
  src : Int
  dst : Int
  tag : Int
  chunks : List Chunk
deriving DecidableEq, Inhabited
def Packet.cells (p : Packet) : List V := [.int .i64 p.src, .int .i64 p.dst, .int .i64 p.tag, csl p.chunks]
def Packet.v (p : Packet) : V := .agg p.cells
structure Hello where
  tag : Int
  window : Int
  streams : Int
  tsn : Int
deriving DecidableEq, Inhabited
def Hello.cells (x : Hello) : List V := [.int .i64 x.tag, .int .i64 x.window, .int .i64 x.streams, .int .i64 x.tsn]
def Hello.v (x : Hello) : V := .agg x.cells
def gV (g : Int × Int) : V := .agg [.int .i64 g.1, .int .i64 g.2]
structure Sack where
  cum : Int
  gaps : List (Int × Int)
deriving DecidableEq, Inhabited
def Sack.cells (x : Sack) : List V := [.int .i64 x.cum, .sl none 2 (x.gaps.map gV)]
def Sack.v (x : Sack) : V := .agg x.cells
structure Side where
  tag : Int
  streams : Int
  first : Int
  sent : List Part
  acked : Int
deriving DecidableEq, Inhabited
def Side.cells (s : Side) : List V := [.int .i64 s.tag, .int .i64 s.streams, .int .i64 s.first, psl s.sent, .int .i64 s.acked]
def Side.v (s : Side) : V := .agg s.cells
def Side.own (σ : Nat) (s : Side) : List V := [.int .i64 s.tag, .int .i64 s.streams, .int .i64 s.first, .sl (some σ) 7 (s.sent.map Part.v), .int .i64 s.acked]
structure Assoc where
  src : Int
  dst : Int
  state : Int
  byB : Bool
  a : Side
  b : Side
deriving DecidableEq, Inhabited
def Assoc.cells (x : Assoc) : List V := [.int .i64 x.src, .int .i64 x.dst, .int .i64 x.state, .bool x.byB] ++ x.a.cells ++ x.b.cells
def Assoc.v (x : Assoc) : V := .agg x.cells
def Assoc.own (σ τ : Nat) (x : Assoc) : List V := [.int .i64 x.src, .int .i64 x.dst, .int .i64 x.state, .bool x.byB] ++ x.a.own σ ++ x.b.own τ
structure Monitor where
  records : Int
  list : List Assoc
  found : List (Int × Int)
deriving DecidableEq, Inhabited
def Monitor.cells (m : Monitor) : List V := [.int .i64 m.records, .sl none 14 (m.list.map Assoc.v), fsl m.found]
def Monitor.v (m : Monitor) : V := .agg m.cells
end
section
def at16 (s : List UInt8) (i : Nat) : Int := 256 * (nth s i).toNat + (nth s (i + 1)).toNat
def at32 (s : List UInt8) (i : Nat) : Int := 65536 * at16 s i + at16 s (i + 2)
def put16 (n : Int) : List UInt8 := [UInt8.ofNat (n.toNat / 256), UInt8.ofNat (n.toNat % 256)]
def put32 (n : Int) : List UInt8 := put16 (n / 65536) ++ put16 (n % 65536)
def addS (a n : Int) : Int := (a + n) % 65536
def diffS (a b : Int) : Int := if (b - a) % 65536 > 32768 then (b - a) % 65536 - 65536 else (b - a) % 65536
def sumF : List UInt8 → Nat × Nat → Nat × Nat
  | [], x => x
  | c :: r, x => sumF r ((x.1 + c.toNat) % 65521, (x.2 + (x.1 + c.toNat) % 65521) % 65521)
def sumS (s : List UInt8) : Int := 65536 * (sumF s (1, 0)).2 + (sumF s (1, 0)).1
def Chunk.ok (c : Chunk) : Bool := inB c.kind 0 255 && inB c.flags 0 255 && decide (c.body.length ≤ 60)
def aloneK (k : Int) : Bool := decide (k = 1) || decide (k = 2) || decide (k = 14)
def Packet.ok (p : Packet) : Bool := p.chunks.all Chunk.ok && inB p.src 1 65535 && inB p.dst 1 65535 && decide (p.src ≠ p.dst) && inB p.tag 0 4294967295 && inB p.chunks.length 1 4
def Packet.alone (p : Packet) : Bool := (decide (p.chunks.length ≤ 1) || p.chunks.all fun c => !aloneK c.kind) && p.ok
def Part.ok (d : Part) : Bool := inS d.tsn && inS d.stream && inS d.ssn && inB d.text.length 1 20
def Hello.ok (x : Hello) : Bool := inB x.tag 1 4294967295 && inB x.window 0 65535 && inB x.streams 1 4 && inS x.tsn
def gapsOk : Int → List (Int × Int) → Bool
  | _, [] => true
  | l, g :: r => decide (l + 2 ≤ g.1) && decide (g.1 ≤ g.2) && decide (g.2 ≤ 16) && gapsOk g.2 r
def Sack.ok (x : Sack) : Bool := gapsOk 0 x.gaps && inS x.cum && decide (x.gaps.length ≤ 8)
def zPart : Part := ⟨0, 0, 0, false, false, false, []⟩
def zHello : Hello := ⟨0, 0, 0, 0⟩
def zSack : Sack := ⟨0, []⟩
def zChunk : Chunk := ⟨0, 0, []⟩
def zPacket : Packet := ⟨0, 0, 0, []⟩
def zSide : Side := ⟨0, 0, 0, [], 0⟩
def zAssoc : Assoc := ⟨0, 0, 0, false, zSide, zSide⟩
def Chunk.part (c : Chunk) : Part := ⟨at16 c.body 0, at16 c.body 2, at16 c.body 4, decide (c.flags / 2 % 2 = 1), decide (c.flags % 2 = 1), decide (c.flags / 4 = 1), c.body.drop 6⟩
def getPart (c : Chunk) : Option Part :=
  if c.kind = 0 ∧ 0 ≤ c.flags ∧ c.flags ≤ 7 ∧ 6 ≤ c.body.length then (if c.part.ok then some c.part else none) else none
def putPart (d : Part) : Option Chunk :=
  if d.ok then some ⟨0, (if d.last then 1 else 0) + (if d.first then 2 else 0) + (if d.loose then 4 else 0), put16 d.tsn ++ put16 d.stream ++ put16 d.ssn ++ d.text⟩ else none
def Chunk.hello (c : Chunk) : Hello := ⟨at32 c.body 0, at16 c.body 4, at16 c.body 6, at16 c.body 8⟩
def getHello (c : Chunk) : Option Hello :=
  if (c.kind = 1 ∨ c.kind = 2) ∧ c.flags = 0 ∧ c.body.length = 10 then (if c.hello.ok then some c.hello else none) else none
def putHello (x : Hello) (answer : Bool) : Option Chunk :=
  if x.ok then some ⟨if answer then 2 else 1, 0, put32 x.tag ++ put16 x.window ++ put16 x.streams ++ put16 x.tsn⟩ else none
def gapsAt (s : List UInt8) : Nat → Nat → List (Int × Int)
  | _, 0 => []
  | i, n + 1 => (at16 s i, at16 s (i + 2)) :: gapsAt s (i + 4) n
def Chunk.sack (c : Chunk) : Sack := ⟨at16 c.body 0, gapsAt c.body 2 (c.body.length / 4)⟩
def getSack (c : Chunk) : Option Sack :=
  if c.kind = 3 ∧ c.flags = 0 ∧ c.body.length % 4 = 2 then (if c.sack.ok then some c.sack else none) else none
def putSack (x : Sack) : Option Chunk :=
  if x.ok then some ⟨3, 0, put16 x.cum ++ x.gaps.flatMap fun g => put16 g.1 ++ put16 g.2⟩ else none
def likeP (a b : Part) : Bool := decide (a.stream = b.stream) && decide (a.ssn = b.ssn) && (a.loose == b.loose)
def ssnN (l : List Part) (stream : Int) : Nat := (l.filter fun d => d.first && !d.loose && decide (d.stream = stream)).length
def followS (l : List Part) (d : Part) : Bool :=
  match l.getLast? with
  | some x => if x.last then d.first && (d.loose || decide (d.ssn = ssnN l d.stream)) else !d.first && likeP d x
  | none => d.first && (d.loose || decide (d.ssn = ssnN l d.stream))
def partAt (s : Side) (i : Nat) : Bool :=
  (nth s.sent i).ok && decide ((nth s.sent i).tsn = addS s.first i) && decide ((nth s.sent i).stream < s.streams) && followS (s.sent.take i) (nth s.sent i)
def Side.ok (s : Side) : Bool :=
  if s.tag = 0 then decide (s.streams = 0) && decide (s.first = 0) && decide (s.sent.length = 0) && decide (s.acked = 0)
  else allTo (partAt s) s.sent.length && inB s.tag 1 4294967295 && inB s.streams 1 4 && inS s.first && decide (s.sent.length ≤ 12) && inB s.acked 0 s.sent.length
def Assoc.ok (x : Assoc) : Bool :=
  inB x.src 1 65535 && inB x.dst 1 65535 && decide (x.src ≠ x.dst) && inB x.state 0 7 && x.a.ok && x.b.ok &&
  (decide (0 < x.a.tag) == decide (1 ≤ x.state)) && (decide (x.state = 7) || (decide (0 < x.b.tag) == decide (2 ≤ x.state))) &&
  (decide (3 ≤ x.state) || decide (x.a.sent.length + x.b.sent.length ≤ 0)) && (!x.byB || decide (5 ≤ x.state))
def Assoc.side (x : Assoc) (byB : Bool) : Side := if byB then x.b else x.a
def Assoc.other (x : Assoc) (byB : Bool) : Side := if byB then x.a else x.b
def Assoc.with (x : Assoc) (byB : Bool) (s : Side) : Assoc := if byB then { x with b := s } else { x with a := s }
def stepHello (x : Assoc) (byB : Bool) (c : Chunk) : Assoc × Int :=
  let first := (x.state = 0 ∧ byB = false ∧ c.kind = 1) ∨ (x.state = 1 ∧ byB = true ∧ c.kind = 2)
  let again := ((1 ≤ x.state ∧ x.state ≤ 2) ∧ byB = false ∧ c.kind = 1) ∨ (x.state = 2 ∧ byB = true ∧ c.kind = 2)
  let s := x.side byB
  if ¬ first ∧ ¬ again then (x, 3) else
  match getHello c with
  | none => (x, 4)
  | some h =>
    if again ∧ (h.tag ≠ s.tag ∨ h.streams ≠ s.streams ∨ h.tsn ≠ s.first) then (x, 7) else
    if again then (x, 0) else
    ({ x with state := x.state + 1 }.with byB ⟨h.tag, h.streams, h.tsn, [], 0⟩, 0)
def stepPart (x : Assoc) (byB : Bool) (c : Chunk) : Assoc × Int :=
  let s := x.side byB
  let mayNew := x.state = 4 ∨ (x.state = 3 ∧ byB = false)
  let mayOld := mayNew ∨ (x.state = 5 ∧ byB ≠ x.byB)
  if ¬ mayOld then (x, 3) else
  match getPart c with
  | none => (x, 4)
  | some d =>
    let k := addS d.tsn (-s.first)
    if k < s.sent.length then (x, if nth s.sent k.toNat = d then 0 else 7) else
    if ¬ mayNew then (x, 3) else
    if d.stream ≥ s.streams then (x, 5) else
    if k > s.sent.length then (x, 6) else
    if followS s.sent d = false then (x, 8) else
    if s.sent.length ≥ 12 then (x, 11) else
    (x.with byB { s with sent := s.sent ++ [d] }, 0)
def stepSack (x : Assoc) (byB : Bool) (c : Chunk) : Assoc × Int :=
  let o := x.other byB
  if ¬ (4 ≤ x.state ∧ x.state ≤ 5) then (x, 3) else
  match getSack c with
  | none => (x, 4)
  | some k =>
    let fin := diffS (addS o.first (-1)) k.cum
    let most : Int := match k.gaps.getLast? with
      | some g => fin + g.2
      | none => fin
    if ¬ (0 ≤ fin ∧ fin ≤ o.sent.length) ∨ most > o.sent.length then (x, 9) else
    (x.with (!byB) { o with acked := max o.acked fin }, 0)
def stepEnd (x : Assoc) (byB : Bool) (kind : Int) : Assoc × Int :=
  let s := x.side byB
  let done := s.acked = s.sent.length
  if kind = 6 ∧ 1 ≤ x.state ∧ x.state ≤ 6 then ({ x with state := 7 }, 0) else
  if kind = 7 ∧ x.state = 4 ∧ ¬ done then (x, 10) else
  if kind = 7 ∧ x.state = 4 then ({ x with state := 5, byB := byB }, 0) else
  if kind = 7 ∧ (5 ≤ x.state ∧ x.state ≤ 6) ∧ byB = x.byB then (x, 0) else
  if kind = 8 ∧ x.state = 5 ∧ byB ≠ x.byB ∧ ¬ done then (x, 10) else
  if kind = 8 ∧ (5 ≤ x.state ∧ x.state ≤ 6) ∧ byB ≠ x.byB then ({ x with state := 6 }, 0) else
  if kind = 14 ∧ x.state = 6 ∧ byB = x.byB then ({ x with state := 7 }, 0) else (x, 3)
def stepCookie (x : Assoc) (byB : Bool) (kind : Int) : Assoc × Int :=
  if kind = 10 ∧ byB = false ∧ 2 ≤ x.state ∧ x.state ≤ 4 then ({ x with state := max x.state 3 }, 0) else
  if kind = 11 ∧ byB = true ∧ 3 ≤ x.state ∧ x.state ≤ 4 then ({ x with state := 4 }, 0) else
  if (kind = 4 ∨ kind = 5 ∨ kind = 9) ∧ 3 ≤ x.state ∧ x.state ≤ 6 then (x, 0) else (x, 3)
def stepC (x : Assoc) (byB : Bool) (c : Chunk) : Assoc × Int :=
  if c.kind = 1 ∨ c.kind = 2 then stepHello x byB c else
  if c.kind = 0 then stepPart x byB c else
  if c.kind = 3 then stepSack x byB c else
  if c.kind = 6 ∨ c.kind = 7 ∨ c.kind = 8 ∨ c.kind = 14 then stepEnd x byB c.kind else stepCookie x byB c.kind
def stepAll (byB : Bool) : List Chunk → Assoc → List Int → Assoc × List Int
  | [], x, r => (x, r)
  | c :: l, x, r => stepAll byB l (stepC x byB c).1 (r ++ [(stepC x byB c).2])
def tagS (x : Assoc) (byB : Bool) (p : Packet) : Int := if p.chunks.any (fun c => decide (c.kind = 1)) then 0 else (x.other byB).tag
def rulesS (x : Assoc) (byB : Bool) (p : Packet) : List Int :=
  ((List.range 12).map Int.ofNat).filter fun k => decide (1 ≤ k) && ((decide (k = 1) && !p.alone) || (decide (k = 2) && decide (p.tag ≠ tagS x byB p)) || decide (k ∈ (stepAll byB p.chunks x []).2))
def byBS (x : Assoc) (p : Packet) : Bool := decide (p.src = x.dst ∧ p.dst = x.src)
def mineS (x : Assoc) (p : Packet) : Bool := x.ok && p.ok && (byBS x p || decide (p.src = x.src ∧ p.dst = x.dst))
def stepS (x : Assoc) (p : Packet) : Assoc × List Int :=
  if mineS x p then
    if rulesS x (byBS x p) p = [] then ((stepAll (byBS x p) p.chunks x []).1, []) else (x, rulesS x (byBS x p) p)
  else (zAssoc, [])
end
section
set_option maxRecDepth 20000
attribute [-simp] List.getD_eq_getElem?_getD
theorem tmod_pos {n k : Int} (h : 0 ≤ n) : n.tmod k = n % k := Int.tmod_eq_emod_of_nonneg h
theorem tmod_neg {n k : Int} (h : n ≤ 0) : n.tmod k = -((-n) % k) := by
  have : n.tmod k = (-(-n)).tmod k := by rw [Int.neg_neg]
  rw [this, Int.neg_tmod, tmod_pos (by omega)]
theorem tdiv_pos {n k : Int} (h : 0 ≤ n) : n.tdiv k = n / k := Int.tdiv_eq_ediv_of_nonneg h
theorem add_eq {a n : Int} (h : 0 ≤ a ∨ (-1000 ≤ a ∧ -1000 ≤ n)) : (a + n.tmod 65536 + 65536).tmod 65536 = addS a n := by
  unfold addS
  rcases Int.le_total 0 n with q | q
  · rw [tmod_pos q, tmod_pos (by omega)]; omega
  · rw [tmod_neg q, tmod_pos (by omega)]; omega
theorem or_i64 {k : Nat} {x y : Nat} (hx : 2 ^ k * x + y < 2 ^ 62) (hy : y < 2 ^ k) : bitsV .or .i64 ((2 ^ k * x : Nat) : Int) (y : Int) = ((2 ^ k * x + y : Nat) : Int) := by
  have e1 : (BitVec.ofInt 64 ((2 ^ k * x : Nat) : Int)).toNat = 2 ^ k * x := by
    simp only [BitVec.toNat_ofInt]
    rw [Int.emod_eq_of_lt (by omega) (by omega), Int.toNat_natCast]
  have e2 : (BitVec.ofInt 64 (y : Int)).toNat = y := by
    simp only [BitVec.toNat_ofInt]
    rw [Int.emod_eq_of_lt (by omega) (by omega), Int.toNat_natCast]
  have e : (BitVec.ofInt 64 ((2 ^ k * x : Nat) : Int) ||| BitVec.ofInt 64 (y : Int)).toNat = 2 ^ k * x + y := by
    rw [BitVec.toNat_or, e1, e2, Nat.two_pow_add_eq_or_of_lt hy]
  show IntKind.i64.wrap ((BitVec.ofInt 64 ((2 ^ k * x : Nat) : Int) ||| BitVec.ofInt 64 (y : Int)).toNat : Int) = _
  rw [e, wrap_i64 (by omega) (by omega)]
theorem l3Add_ok (a n : Int) (ha : a ≤ 1000000000000) (hn : -1000000000000 ≤ n ∧ n ≤ 1000000000000) (h : 0 ≤ a ∨ (-1000 ≤ a ∧ -1000 ≤ n)) : Fn Tryz.prog fn_spec_l3Add [.int .i64 a, .int .i64 n] [] (.int .i64 (addS a n)) [] := by
  refine Fn.of_go ln_spec_l3Add rfl ?_
  have e := add_eq h
  have b : -65536 < n.tmod 65536 ∧ n.tmod 65536 < 65536 := by
    rcases Int.le_total 0 n with q | q
    · rw [tmod_pos q]; omega
    · rw [tmod_neg q]; omega
  simp [ac_spec_l3Add, e]
  exact ⟨by omega, by omega, Ends.mk [] [] (by simp)⟩
theorem impl_SerialAdd_ok (a n : Int) (hn : -1000000000000 ≤ n ∧ n ≤ 1000000000000) : Fn Tryz.prog fn_impl_SerialAdd [.int .i64 a, .int .i64 n] [] (.int .i64 (if inS a then addS a n else -1)) [] := by
  refine Fn.of_go ln_impl_SerialAdd rfl ?_
  simp [ac_impl_SerialAdd]
  refine goCall_eq (serialOk_ok a) (by simp) ?_
  simp
  refine goTest_bool (fun h => ?_) (fun h => ?_)
  · simp [h]
    have q1 := h
    simp [inS] at q1
    have b : -65536 < n.tmod 65536 ∧ n.tmod 65536 < 65536 := by
      rcases Int.le_total 0 n with q | q
      · rw [tmod_pos q]; omega
      · rw [tmod_neg q]; omega
    have b2 : -65536 < (a + n.tmod 65536).tmod 65536 ∧ (a + n.tmod 65536).tmod 65536 < 65536 := by
      rcases Int.le_total 0 (a + n.tmod 65536) with q | q
      · rw [tmod_pos q]; omega
      · rw [tmod_neg q]; omega
    have e : ((a + n.tmod 65536).tmod 65536 + 65536).tmod 65536 = addS a n := by
      unfold addS
      rw [tmod_pos (by omega)]
      rcases Int.le_total 0 n with q | q
      · rw [tmod_pos q, tmod_pos (by omega)]; omega
      · rw [tmod_neg q]
        rcases Int.le_total 0 (a + -(-n % 65536)) with q2 | q2
        · rw [tmod_pos q2]; omega
        · rw [tmod_neg q2]; omega
    refine ⟨by omega, by omega, ?_⟩
    rw [e]
    exact Ends.mk [] [] (by simp [h])
  · simp [h]
    exact Ends.mk [] [] (by simp [h])
theorem l3Diff_ok (a b : Int) (ha : 0 ≤ a ∧ a ≤ 1000000) (hb : 0 ≤ b ∧ b ≤ 1000000) : Fn Tryz.prog fn_spec_l3Diff [.int .i64 a, .int .i64 b] [] (.int .i64 (diffS a b)) [] := by
  refine Fn.of_go ln_spec_l3Diff rfl ?_
  simp [ac_spec_l3Diff]
  refine ⟨by omega, goCall_eq (l3Add_ok b (-a) (by omega) (by omega) (by omega)) (by simp) ?_⟩
  simp
  have e : addS b (-a) = (b - a) % 65536 := by unfold addS; omega
  simp only [e]
  refine goTest_dec (fun h => ?_) (fun h => ?_)
  · simp [h]
    exact ⟨by omega, Ends.mk [] [] (by simp [diffS, h])⟩
  · simp [h]
    exact Ends.mk [] [] (by simp [diffS, h])
theorem impl_SerialDiff_ok (a b : Int) : Fn Tryz.prog fn_impl_SerialDiff [.int .i64 a, .int .i64 b] [] (.int .i64 (if inS a && inS b then diffS a b else -65536)) [] := by
  refine Fn.of_go ln_impl_SerialDiff rfl ?_
  simp [ac_impl_SerialDiff]
  refine goCall_eq (serialOk_ok a) (by simp) ?_
  simp
  refine goTest_bool (fun h => ?_) (fun h => ?_)
  · simp [h]
    refine goCall_eq (serialOk_ok b) (by simp) ?_
    simp
    refine goTest_bool (fun h2 => ?_) (fun h2 => ?_)
    · simp [h2]
      have q1 := h
      have q2 := h2
      simp [inS] at q1 q2
      have e : (b - a + 65536).tmod 65536 = (b - a) % 65536 := by rw [tmod_pos (by omega)]; omega
      rw [e]
      refine ⟨by omega, by omega, goTest_dec (fun h3 => ?_) (fun h3 => ?_)⟩
      · simp [h3, e]
        exact ⟨by omega, Ends.mk [] [] (by simp [diffS, h, h2, h3])⟩
      · simp [h3, e]
        exact Ends.mk [] [] (by simp [diffS, h, h2, h3])
    · simp [h2]
      exact Ends.mk [] [] (by simp [h2])
  · simp [h]
    exact Ends.mk [] [] (by simp [h])
theorem l1At_ok (s : List UInt8) (i : Nat) (h : i + 1 < s.length) (hs : s.length ≤ 1000000000000) : Fn Tryz.prog fn_spec_l1At [.str s, .int .i64 i] [] (.int .i64 (at16 s i)) [] := by
  refine Fn.of_go ln_spec_l1At rfl ?_
  have h0 : i < s.length := by omega
  have n0 := idx_nth h0
  have n1 := idx_nth h
  have u0 := (nth s i).toNat_lt
  have u1 := (nth s (i + 1)).toNat_lt
  have e1 : ((i : Int) + 1).toNat = i + 1 := by omega
  simp [ac_spec_l1At, h0, n0, e1, n1, wrap_u8]
  exact ⟨by omega, by omega, by omega, by omega, Ends.mk [] [] (by simp [at16])⟩
theorem WordGet_ok (s : List UInt8) (i : Nat) (h : i + 1 < s.length) (hs : s.length ≤ 1000000000000) : Fn Tryz.prog fn_impl_WordGet [.str s, .int .i64 i] [] (.tup [.int .i64 (at16 s i), .bool true]) [] := by
  refine Fn.of_go ln_impl_WordGet rfl ?_
  have h0 : i < s.length := by omega
  have n0 := idx_nth h0
  have n1 := idx_nth h
  have u0 := (nth s i).toNat_lt
  have u1 := (nth s (i + 1)).toNat_lt
  have e1 : ((i : Int) + 1).toNat = i + 1 := by omega
  have e2 : ¬ (i : Int) < 0 := by omega
  have e3 : ¬ (s.length : Int) - 2 < i := by omega
  have e4 := or_i64 (k := 8) (x := (nth s i).toNat) (y := (nth s (i + 1)).toNat) (by omega) (by omega)
  have e5 : ((nth s i).toNat : Int) * 256 = ((2 ^ 8 * (nth s i).toNat : Nat) : Int) := by omega
  have e6 : bitsV .or .i64 (((nth s i).toNat : Int) * 256) ((nth s (i + 1)).toNat : Int) = at16 s i := by rw [e5, e4]; unfold at16; omega
  simp [ac_impl_WordGet, h0, n0, e1, n1, e2, e3, wrap_u8]
  exact ⟨by omega, ⟨by omega, by decide⟩, by omega, by omega, Ends.mk [] [] (by simp [e6])⟩
theorem LongGet_ok (s : List UInt8) (i : Nat) (h : i + 3 < s.length) (hs : s.length ≤ 1000000000000) : Fn Tryz.prog fn_impl_LongGet [.str s, .int .i64 i] [] (.tup [.int .i64 (at32 s i), .bool true]) [] := by
  refine Fn.of_go ln_impl_LongGet rfl ?_
  have h0 : i < s.length := by omega
  have h1 : i + 1 < s.length := by omega
  have h2 : i + 2 < s.length := by omega
  have n0 := idx_nth h0
  have n1 := idx_nth h1
  have n2 := idx_nth h2
  have n3 := idx_nth h
  have u0 := (nth s i).toNat_lt
  have u1 := (nth s (i + 1)).toNat_lt
  have u2 := (nth s (i + 2)).toNat_lt
  have u3 := (nth s (i + 3)).toNat_lt
  have e1 : ((i : Int) + 1).toNat = i + 1 := by omega
  have e1' : ((i : Int) + 2).toNat = i + 2 := by omega
  have e1'' : ((i : Int) + 3).toNat = i + 3 := by omega
  have e2 : ¬ (i : Int) < 0 := by omega
  have e3 : ¬ (s.length : Int) - 4 < i := by omega
  have w3 : i + 2 + 1 = i + 3 := rfl
  have o1 := or_i64 (k := 24) (x := (nth s i).toNat) (y := 2 ^ 16 * (nth s (i + 1)).toNat) (by omega) (by omega)
  have o2 := or_i64 (k := 16) (x := 2 ^ 8 * (nth s i).toNat + (nth s (i + 1)).toNat) (y := 2 ^ 8 * (nth s (i + 2)).toNat) (by omega) (by omega)
  have o3 := or_i64 (k := 8) (x := 2 ^ 16 * (nth s i).toNat + 2 ^ 8 * (nth s (i + 1)).toNat + (nth s (i + 2)).toNat) (y := (nth s (i + 3)).toNat) (by omega) (by omega)
  have c0 : ((nth s i).toNat : Int) * 16777216 = ((2 ^ 24 * (nth s i).toNat : Nat) : Int) := by omega
  have c1 : ((nth s (i + 1)).toNat : Int) * 65536 = ((2 ^ 16 * (nth s (i + 1)).toNat : Nat) : Int) := by omega
  have c2 : ((nth s (i + 2)).toNat : Int) * 256 = ((2 ^ 8 * (nth s (i + 2)).toNat : Nat) : Int) := by omega
  have d1 : 2 ^ 24 * (nth s i).toNat + 2 ^ 16 * (nth s (i + 1)).toNat = 2 ^ 16 * (2 ^ 8 * (nth s i).toNat + (nth s (i + 1)).toNat) := by omega
  have d2 : 2 ^ 16 * (2 ^ 8 * (nth s i).toNat + (nth s (i + 1)).toNat) + 2 ^ 8 * (nth s (i + 2)).toNat = 2 ^ 8 * (2 ^ 16 * (nth s i).toNat + 2 ^ 8 * (nth s (i + 1)).toNat + (nth s (i + 2)).toNat) := by omega
  have e6 : bitsV .or .i64 (bitsV .or .i64 (bitsV .or .i64 (((nth s i).toNat : Int) * 16777216) (((nth s (i + 1)).toNat : Int) * 65536)) (((nth s (i + 2)).toNat : Int) * 256)) ((nth s (i + 3)).toNat : Int) = at32 s i := by
    rw [c0, c1, c2, o1, d1, o2, d2, o3]
    unfold at32 at16
    rw [w3]
    omega
  simp [ac_impl_LongGet, h0, n0, e1, n1, e1', n2, e1'', n3, e2, e3, wrap_u8]
  refine ⟨by omega, ⟨by omega, by decide⟩, by omega, by omega, ⟨by omega, by decide⟩, by omega, by omega, ⟨by omega, by decide⟩, by omega, by omega, Ends.mk [] [] (by simp [e6])⟩
theorem wrap8 (n : Nat) : IntKind.u8.wrap (n : Int) = ((n % 256 : Nat) : Int) := by
  simp [IntKind.wrap, IntKind.bits, IntKind.signed]
theorem ofNat_mod (n : Nat) : UInt8.ofNat (n % 256) = UInt8.ofNat n := by
  apply UInt8.toNat_inj.1
  simp
theorem l1Word_ok (n : Nat) (h : n ≤ 1000000000000) : Fn Tryz.prog fn_spec_l1Word [.int .i64 n] [] (.str (put16 n)) [] := by
  refine Fn.of_go ln_spec_l1Word rfl ?_
  have e1 : (n : Int).tdiv 256 = ((n / 256 : Nat) : Int) := tdiv_pos (by omega)
  have e2 : (n : Int).tmod 256 = ((n % 256 : Nat) : Int) := tmod_pos (by omega)
  simp [ac_spec_l1Word, e1, e2, wrap8, -Int.natCast_ediv, -Int.natCast_emod]
  exact ⟨by omega, Ends.mk [] [] (by simp [put16, ofNat_mod])⟩
theorem put16_len (n : Int) : (put16 n).length = 2 := rfl
theorem put32_len (n : Int) : (put32 n).length = 4 := rfl
theorem l1Long_ok (n : Nat) (h : n ≤ 1000000000000) : Fn Tryz.prog fn_spec_l1Long [.int .i64 n] [] (.str (put32 n)) [] := by
  refine Fn.of_go ln_spec_l1Long rfl ?_
  have e1 : (n : Int).tdiv 65536 = ((n / 65536 : Nat) : Int) := tdiv_pos (by omega)
  have e2 : (n : Int).tmod 65536 = ((n % 65536 : Nat) : Int) := tmod_pos (by omega)
  simp [ac_spec_l1Long, e1, e2, -Int.natCast_ediv, -Int.natCast_emod]
  refine ⟨by omega, goCall_eq (l1Word_ok (n / 65536) (by omega)) (by simp) ?_⟩
  simp [-Int.natCast_ediv, -Int.natCast_emod]
  refine goCall_eq (l1Word_ok (n % 65536) (by omega)) (by simp [-Int.natCast_ediv, -Int.natCast_emod]) ?_
  simp [-Int.natCast_ediv, -Int.natCast_emod]
  exact ⟨by simp [put16_len], Ends.mk [] [] (by simp [put32])⟩
theorem shr8 (n : Nat) (k : Nat) : (n : Int).fdiv (2 ^ k) = ((n / 2 ^ k : Nat) : Int) := by
  rw [Int.fdiv_eq_ediv_of_nonneg _ (by exact_mod_cast Nat.zero_le _)]
  simp
theorem WordPut_ok (n : Nat) (h : n ≤ 65535) : Fn Tryz.prog fn_impl_WordPut [.int .i64 n] [] (.tup [.str (put16 n), .bool true]) [] := by
  refine Fn.of_go ln_impl_WordPut rfl ?_
  have e1 : (n : Int).fdiv 256 = ((n / 256 : Nat) : Int) := shr8 n 8
  have e2 : ¬ (n : Int) < 0 := by omega
  have e3 : ¬ (65535 : Int) < n := by omega
  simp [ac_impl_WordPut, e1, e2, e3, wrap8, -Int.natCast_ediv, -Int.natCast_emod]
  exact ⟨by decide, Ends.mk [] [] (by simp [put16, ofNat_mod])⟩
theorem LongPut_ok (n : Nat) (h : n ≤ 4294967295) : Fn Tryz.prog fn_impl_LongPut [.int .i64 n] [] (.tup [.str (put32 n), .bool true]) [] := by
  refine Fn.of_go ln_impl_LongPut rfl ?_
  have e1 : (n : Int).fdiv 256 = ((n / 256 : Nat) : Int) := shr8 n 8
  have e4 : (n : Int).fdiv 65536 = ((n / 65536 : Nat) : Int) := shr8 n 16
  have e5 : (n : Int).fdiv 16777216 = ((n / 16777216 : Nat) : Int) := shr8 n 24
  have e2 : ¬ (n : Int) < 0 := by omega
  have e3 : ¬ (4294967295 : Int) < n := by omega
  have e6 : ((n : Int) / 65536).toNat = n / 65536 := by omega
  have e7 : ((n : Int) % 65536).toNat = n % 65536 := by omega
  have f1 : n / 65536 / 256 = n / 16777216 := by omega
  have f2 : UInt8.ofNat (n % 65536 / 256) = UInt8.ofNat (n / 256) := by rw [← ofNat_mod (n / 256)]; congr 1; omega
  have f3 : UInt8.ofNat (n % 65536 % 256) = UInt8.ofNat n := by rw [← ofNat_mod n]; congr 1; omega
  simp [ac_impl_LongPut, e1, e2, e3, e4, e5, wrap8, -Int.natCast_ediv, -Int.natCast_emod]
  refine ⟨by decide, by decide, by decide, Ends.mk [] [] (by simp [put32, put16, ofNat_mod, e6, e7, f1, f2, f3])⟩
def wordsS (l : List Nat) : List UInt8 := l.flatMap fun n : Nat => put16 (n : Int)
theorem wordsS_len : ∀ l : List Nat, (wordsS l).length = 2 * l.length
  | [] => rfl
  | x :: r => by
    have ih := wordsS_len r
    simp only [wordsS, List.flatMap_cons, List.length_append, put16_len, List.length_cons] at ih ⊢
    omega
theorem words_ok (l : List Nat) (h : ∀ n ∈ l, n ≤ 65535) (hl : l.length ≤ 1000000) : Fn Tryz.prog fn_impl_words [.sl none 1 (l.map fun n : Nat => V.int .i64 (n : Int))] [] (.str (wordsS l)) [] := by
  refine Fn.of_go ln_impl_words rfl ?_
  simp [ac_impl_words]
  refine go_loop (fun i => { env := [(8, .sl none 1 (l.map fun n : Nat => V.int .i64 (n : Int))), (9, .int .i64 (l.length : Nat)), (3, .str (wordsS (l.take i))), (10, .int .i64 (i : Nat))], loc := [], box := [], stat := [] }) (fun i => i ≤ l.length) (fun i => l.length - i) 0 (by omega) (Weak.of [] [] (by simp [wordsS])) ?_
  intro i hi
  simp
  refine goTest_dec (fun hlt => ?_) (fun hge => ?_)
  · have hn := h _ (nth_mem hlt)
    have hs := take_nth hlt
    have hw : (wordsS (l.take i)).length ≤ 2 * i := by
      rw [wordsS_len]; simp; omega
    simp [hlt]
    refine goCall_eq (WordPut_ok (nth l i) hn) (by simp) ?_
    simp
    exact ⟨by simp [put16_len]; omega, by omega, .mk (i + 1) hlt (by omega) (Weak.of [] [] (by simp [hs, wordsS]))⟩
  · obtain rfl : i = l.length := by omega
    simp
    exact Ends.mk [] [] (by simp)
theorem sumF_lt : ∀ (s : List UInt8) (x : Nat × Nat), x.1 < 65521 → x.2 < 65521 → (sumF s x).1 < 65521 ∧ (sumF s x).2 < 65521
  | [], x, h1, h2 => ⟨h1, h2⟩
  | c :: r, x, h1, h2 => sumF_lt r _ (Nat.mod_lt _ (by decide)) (Nat.mod_lt _ (by decide))
theorem sumF_snoc : ∀ (s : List UInt8) (c : UInt8) (x : Nat × Nat), sumF (s ++ [c]) x = (((sumF s x).1 + c.toNat) % 65521, ((sumF s x).2 + ((sumF s x).1 + c.toNat) % 65521) % 65521)
  | [], c, x => rfl
  | d :: r, c, x => sumF_snoc r c _
theorem sumOn_ok (s : List UInt8) (hs : s.length ≤ 1000000000) : Fn Tryz.prog fn_impl_sumOn [.int .i64 1, .int .i64 0, .str s] [] (.int .i64 (sumS s)) [] := by
  refine Fn.of_go ln_impl_sumOn rfl ?_
  simp [ac_impl_sumOn]
  refine go_loop (fun i => { env := [(0, .int .i64 ((sumF (s.take i) (1, 0)).1 : Nat)), (1, .int .i64 ((sumF (s.take i) (1, 0)).2 : Nat)), (2, .str s), (7, .int .i64 (i : Nat))], loc := [], box := [], stat := [] }) (fun i => i ≤ s.length) (fun i => s.length - i) 0 (by omega) (Weak.of [] [] (by simp [sumF])) ?_
  intro i hi
  simp
  obtain ⟨q1, q2⟩ := sumF_lt (s.take i) (1, 0) (by decide) (by decide)
  refine goTest_dec (fun hlt => ?_) (fun hge => ?_)
  · have hn := idx_nth hlt
    have hsn := sumF_snoc (s.take i) (nth s i) (1, 0)
    rw [← take_nth hlt] at hsn
    have hu := (nth s i).toNat_lt
    generalize sumF (s.take i) (1, 0) = x at *
    have e1 : ((x.1 : Int) + (nth s i).toNat).tmod 65521 = (((x.1 + (nth s i).toNat) % 65521 : Nat) : Int) := tmod_pos (by omega)
    have e2 : ((x.2 : Int) + (((x.1 + (nth s i).toNat) % 65521 : Nat) : Int)).tmod 65521 = (((x.2 + (x.1 + (nth s i).toNat) % 65521) % 65521 : Nat) : Int) := tmod_pos (by omega)
    simp [hlt, hn, wrap_u8, e1, e2, -Int.natCast_emod]
    refine ⟨by omega, by omega, by omega, .mk (i + 1) hlt (by omega) (Weak.of [] [] (by simp [hsn]))⟩
  · obtain rfl : i = s.length := by omega
    simp at q1 q2
    simp
    exact ⟨by omega, by omega, Ends.mk [] [] (by simp [sumS]; omega)⟩
theorem SumText_ok (s : List UInt8) (hs : s.length ≤ 1000000000) : Fn Tryz.prog fn_impl_SumText [.str s] [] (.int .i64 (sumS s)) [] := by
  refine Fn.of_go ln_impl_SumText rfl ?_
  simp [ac_impl_SumText]
  refine goCall_eq (sumOn_ok s hs) (by simp) ?_
  simp
  exact Ends.mk [] [] (by simp)
theorem l2Next_ok (s : List UInt8) (hs : s.length ≤ 1000000000) : Fn Tryz.prog fn_spec_l2Next [.int .i64 1, .str s] [] (.int .i64 (sumS s)) [] := by
  refine Fn.of_go ln_spec_l2Next rfl ?_
  have e0 : (1 : Int).tmod 65536 = 1 := by decide
  have e00 : (1 : Int).tdiv 65536 = 0 := by decide
  simp [ac_spec_l2Next, e0, e00]
  refine go_loop (fun i => { env := [(5, .int .i64 ((sumF (s.take i) (1, 0)).1 : Nat)), (6, .int .i64 ((sumF (s.take i) (1, 0)).2 : Nat)), (1, .str s), (7, .int .i64 (i : Nat))], loc := [], box := [], stat := [] }) (fun i => i ≤ s.length) (fun i => s.length - i) 0 (by omega) (Weak.of [] [] (by simp [sumF])) ?_
  intro i hi
  simp
  obtain ⟨q1, q2⟩ := sumF_lt (s.take i) (1, 0) (by decide) (by decide)
  refine goTest_dec (fun hlt => ?_) (fun hge => ?_)
  · have hn := idx_nth hlt
    have hsn := sumF_snoc (s.take i) (nth s i) (1, 0)
    rw [← take_nth hlt] at hsn
    have hu := (nth s i).toNat_lt
    generalize sumF (s.take i) (1, 0) = x at *
    have e1 : ((x.1 : Int) + (nth s i).toNat).tmod 65521 = (((x.1 + (nth s i).toNat) % 65521 : Nat) : Int) := tmod_pos (by omega)
    have e2 : ((x.2 : Int) + (((x.1 + (nth s i).toNat) % 65521 : Nat) : Int)).tmod 65521 = (((x.2 + (x.1 + (nth s i).toNat) % 65521) % 65521 : Nat) : Int) := tmod_pos (by omega)
    simp [hlt, hn, wrap_u8, e1, e2, -Int.natCast_emod]
    refine ⟨by omega, by omega, by omega, .mk (i + 1) hlt (by omega) (Weak.of [] [] (by simp [hsn]))⟩
  · obtain rfl : i = s.length := by omega
    simp at q1 q2
    simp
    exact ⟨by omega, by omega, Ends.mk [] [] (by simp [sumS])⟩
def sumP (s : List UInt8) : Int := sumS (s.take 8 ++ 0 :: 0 :: 0 :: 0 :: s.drop 12)
theorem l13Sum_ok (s : List UInt8) (h : 12 ≤ s.length) (hs : s.length ≤ 100000000) : Fn Tryz.prog fn_spec_l13Sum [.str s] [] (.int .i64 (sumP s)) [] := by
  refine Fn.of_go ln_spec_l13Sum rfl ?_
  simp [ac_spec_l13Sum]
  refine ⟨by omega, by omega, by omega, by omega, goCall_eq (l2Next_ok (s.take 8 ++ 0 :: 0 :: 0 :: 0 :: s.drop 12) (by simp; omega)) (by simp) ?_⟩
  simp
  exact Ends.mk [] [] (by simp [sumP])
end
section
set_option maxRecDepth 20000
attribute [-simp] List.getD_eq_getElem?_getD
theorem impl_ChunkValid_ok (c : Chunk) : Fn Tryz.prog fn_impl_ChunkValid [c.v] [] (.bool c.ok) [] := by
  refine Fn.of_go ln_impl_ChunkValid rfl ?_
  simp [ac_impl_ChunkValid, Chunk.v, Chunk.cells]
  repeat' (first
    | (refine goTest_dec (fun h => ?_) (fun h => ?_) <;> simp [h])
    | exact Ends.mk [] [] (by simp [Chunk.ok, inB, *]))
theorem spec_ChunkValid_ok (c : Chunk) : Fn Tryz.prog fn_spec_ChunkValid [c.v] [] (.bool c.ok) [] := by
  refine Fn.of_go ln_spec_ChunkValid rfl ?_
  simp [ac_spec_ChunkValid, Chunk.v, Chunk.cells]
  repeat' (first
    | (refine goTest_dec (fun h => ?_) (fun h => ?_) <;> simp [h])
    | (refine goTest_bool (fun h => ?_) (fun h => ?_) <;> simp [h])
    | (refine goCall_eq (l6In_ok _ _ _) (by simp) ?_; simp)
    | exact Ends.mk [] [] (by simp [Chunk.ok, *]))
theorem l13Alone_ok (k : Int) : Fn Tryz.prog fn_spec_l13Alone [.int .i64 k] [] (.bool (aloneK k)) [] := by
  refine Fn.of_go ln_spec_l13Alone rfl ?_
  simp [ac_spec_l13Alone]
  repeat' (first
    | (refine goTest_dec (fun h => ?_) (fun h => ?_) <;> simp [h])
    | exact Ends.mk [] [] (by simp [aloneK, *]))
def AllTake {α : Type} (p : α → Bool) (l : List α) (i : Nat) : Prop := (l.take i).all p = true
theorem AllTake.zero {α : Type} {p : α → Bool} {l : List α} : AllTake p l 0 := by simp [AllTake]
theorem AllTake.succ {α : Type} [Inhabited α] {p : α → Bool} {l : List α} {i : Nat} (hp : AllTake p l i) (h : i < l.length) (h2 : p (nth l i) = true) : AllTake p l (i + 1) := by
  unfold AllTake at *
  rw [take_nth h, List.all_append, hp]; simp [h2]
theorem AllTake.all {α : Type} {p : α → Bool} {l : List α} (hp : AllTake p l l.length) : l.all p = true := by
  unfold AllTake at hp; rwa [List.take_length] at hp
theorem all_false {α : Type} [Inhabited α] {p : α → Bool} {l : List α} {i : Nat} (h : i < l.length) (h2 : p (nth l i) = false) : l.all p = false := by
  rw [List.all_eq_false]; exact ⟨_, nth_mem h, by simp [h2]⟩
def Packet.head (p : Packet) : Bool := decide ((1 ≤ p.src ∧ p.src ≤ 65535) ∧ (1 ≤ p.dst ∧ p.dst ≤ 65535) ∧ p.src ≠ p.dst ∧ (0 ≤ p.tag ∧ p.tag ≤ 4294967295) ∧ 1 ≤ p.chunks.length ∧ p.chunks.length ≤ 4)
theorem Packet.ok_eq (p : Packet) : p.ok = (p.chunks.all Chunk.ok && p.head) := by
  rw [Bool.eq_iff_iff]
  simp only [Packet.ok, Packet.head, inB, Bool.and_eq_true, decide_eq_true_eq]
  constructor
  · rintro ⟨⟨⟨⟨⟨h1, h2⟩, h3⟩, h4⟩, h5⟩, h6⟩
    exact ⟨h1, h2, h3, h4, h5, by omega⟩
  · rintro ⟨h1, h2, h3, h4, h5, h6⟩
    exact ⟨⟨⟨⟨⟨h1, h2⟩, h3⟩, h4⟩, h5⟩, by omega⟩
theorem Packet.bad {p : Packet} (h : p.head = false) : p.ok = false := by rw [Packet.ok_eq, h, Bool.and_false]
theorem impl_PacketValid_ok (p : Packet) (hl : p.chunks.length ≤ 1000000) : Fn Tryz.prog fn_impl_PacketValid [p.v] [] (.bool p.ok) [] := by
  refine Fn.of_go ln_impl_PacketValid rfl ?_
  simp [ac_impl_PacketValid, Packet.v, Packet.cells, csl]
  repeat' (first
    | (refine goTest_dec (fun h => ?_) (fun h => ?_) <;> simp [h])
    | (refine go_loop (fun i => { env := [(53, csl p.chunks), (54, .int .i64 (p.chunks.length : Nat)), (55, .int .i64 (i : Nat))], loc := [], box := [], stat := [] }) (fun i => (i ≤ p.chunks.length ∧ AllTake Chunk.ok p.chunks i) ∧ p.head = true) (fun i => p.chunks.length - i) 0 ⟨⟨by omega, .zero⟩, by have := List.length_pos_iff.2 ‹¬ p.chunks = []›; simp [Packet.head]; omega⟩ (Weak.of [] [] (by simp [csl])) ?_)
    | exact Ends.mk [] [] (by simp [Packet.bad (p := p) (by simp [Packet.head, *] <;> omega)]))
  rintro i ⟨⟨hi, hp⟩, hh⟩
  simp [csl]
  refine goTest_dec (fun hlt => ?_) (fun hge => ?_)
  · simp [hlt, Chunk.v, Chunk.cells]
    refine goCall_eq (impl_ChunkValid_ok (nth p.chunks i)) (by simp [Chunk.v, Chunk.cells]) ?_
    simp
    refine goTest_bool (fun h => ?_) (fun h => ?_)
    · simp [h]
      exact ⟨by omega, .mk (i + 1) ⟨⟨hlt, hp.succ hlt h⟩, hh⟩ (by omega) (Weak.of [] [] (by simp [csl]))⟩
    · simp [h]
      exact Ends.mk [] [] (by simp [Packet.ok_eq, all_false hlt h])
  · obtain rfl : i = p.chunks.length := by omega
    simp
    exact Ends.mk [] [] (by simp [Packet.ok_eq, hh, hp.all])
theorem spec_PacketValid_ok (p : Packet) (hl : p.chunks.length ≤ 1000000) : Fn Tryz.prog fn_spec_PacketValid [p.v] [] (.bool p.ok) [] := by
  refine Fn.of_go ln_spec_PacketValid rfl ?_
  simp [ac_spec_PacketValid, Packet.v, Packet.cells, csl]
  refine go_loop (fun i => { env := [(1, .ptr 1 0), (3, .int .i64 (i : Nat))], loc := [], box := [(1, p.cells)], stat := [] }) (fun i => i ≤ p.chunks.length ∧ AllTake Chunk.ok p.chunks i) (fun i => p.chunks.length - i) 0 ⟨by omega, .zero⟩ (Weak.of [] [(1, 1)] (by simp [Packet.cells, csl])) ?_
  rintro i ⟨hi, hp⟩
  simp [Packet.cells, csl]
  refine goTest_dec (fun hlt => ?_) (fun hge => ?_)
  · simp [hlt, Chunk.v, Chunk.cells]
    refine goCall_eq (spec_ChunkValid_ok (nth p.chunks i)) (by simp [Chunk.v, Chunk.cells]) ?_
    simp
    refine goTest_bool (fun h => ?_) (fun h => ?_)
    · simp [h]
      exact ⟨by omega, .mk (i + 1) ⟨hlt, hp.succ hlt h⟩ (by omega) (Weak.of [] [(1, 1)] (by simp [Packet.cells, csl]))⟩
    · simp [h]
      exact Ends.mk [] [] (by simp [Packet.ok, all_false hlt h])
  · obtain rfl : i = p.chunks.length := by omega
    have hp := hp.all
    simp
    repeat' (first
      | (refine goTest_dec (fun h => ?_) (fun h => ?_) <;> simp [h])
      | (refine goTest_bool (fun h => ?_) (fun h => ?_) <;> simp [h])
      | (refine goCall_eq (l6In_ok _ _ _) (by simp) ?_; simp)
      | exact Ends.mk [] [] (by simp [Packet.ok, hp, *]))
end
end Go.Proofs.YtjkbbdmkgealfaaGreatDoor
