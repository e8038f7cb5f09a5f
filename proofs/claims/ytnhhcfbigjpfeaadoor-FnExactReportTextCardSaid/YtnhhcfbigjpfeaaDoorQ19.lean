/-
  What the functions of chunks, parts, packets and associations compute, in plain terms.
  Numbers, serial numbers and checksums: what the functions of both sides return.
  Numbers out of all bounds: what the reference's functions return where a sum goes round, by walks of their own.
  Chunks and packets that are valid.
  Which chunks are alone; which bodies are valid; and bodies that are read.
  Receipts that are valid; bodies that are read and written.
  Receipts that are read; bodies that are written.
  Bodies that are written.
  Parts that follow each other, sides and associations that are valid.
  Sides and associations that are valid.
-/
import Derived.Test.YtnhhcfbigjpfeaaDoorQ18
import Derived.Tactics
import Derived.Tactics2
import Derived.LoopTactic
import Derived.RegionTactic
namespace Go.Proofs.YtnhhcfbigjpfeaaDoor
set_option linter.all false

section

/-- A number of two bytes, the higher one first. -/
def at16 (s : List UInt8) (i : Nat) : Int := 256 * (nth s i).toNat + (nth s (i + 1)).toNat
def at32 (s : List UInt8) (i : Nat) : Int := 65536 * at16 s i + at16 s (i + 2)
def addS (a n : Int) : Int := (a + n) % 65536
def diffS (a b : Int) : Int := if (b - a) % 65536 > 32768 then (b - a) % 65536 - 65536 else (b - a) % 65536

/-- Both halves of a checksum. -/
def sumF : List UInt8 → Nat × Nat → Nat × Nat
  | [], x => x
  | c :: r, x => sumF r ((x.1 + c.toNat) % 65521, (x.2 + (x.1 + c.toNat) % 65521) % 65521)
def sumS (s : List UInt8) : Int := 65536 * (sumF s (1, 0)).2 + (sumF s (1, 0)).1

def Chunk.ok (c : Chunk) : Bool := inB c.kind 0 255 && inB c.flags 0 255 && decide (c.body.length ≤ 60)
def aloneK (k : Int) : Bool := decide (k = 1) || decide (k = 2) || decide (k = 14)
def Packet.ok (p : Packet) : Bool := p.chunks.all Chunk.ok && inB p.src 1 65535 && inB p.dst 1 65535 && decide (p.src ≠ p.dst) && inB p.tag 0 4294967295 && inB p.chunks.length 1 4
def Packet.alone (p : Packet) : Bool := (decide (p.chunks.length ≤ 1) || p.chunks.all fun c => !aloneK c.kind) && p.ok

def Part.ok (d : Part) : Bool := inS d.tsn && inS d.stream && inS d.ssn && inB d.text.length 1 20
def Hello.ok (x : Hello) : Bool := inB x.tag 1 4294967295 && inB x.window 0 65535 && inB x.streams 1 4 && inS x.tsn
def gapsOk : Int → List (Int × Int) → Bool
  | _, [] => true
  | l, g :: r => decide (l + 2 ≤ g.1) && decide (g.1 ≤ g.2) && decide (g.2 ≤ 16) && gapsOk g.2 r
def Sack.ok (x : Sack) : Bool := gapsOk 0 x.gaps && inS x.cum && decide (x.gaps.length ≤ 8)

def zPacket : Packet := ⟨0, 0, 0, []⟩
def zSide : Side := ⟨0, 0, 0, [], 0⟩
def zAssoc : Assoc := ⟨0, 0, 0, false, zSide, zSide⟩

def Chunk.part (c : Chunk) : Part := ⟨at16 c.body 0, at16 c.body 2, at16 c.body 4, decide (c.flags / 2 % 2 = 1), decide (c.flags % 2 = 1), decide (c.flags / 4 = 1), c.body.drop 6⟩
def getPart (c : Chunk) : Option Part :=
  if c.kind = 0 ∧ 0 ≤ c.flags ∧ c.flags ≤ 7 ∧ 6 ≤ c.body.length then (if c.part.ok then some c.part else none) else none
def Chunk.hello (c : Chunk) : Hello := ⟨at32 c.body 0, at16 c.body 4, at16 c.body 6, at16 c.body 8⟩
def getHello (c : Chunk) : Option Hello :=
  if (c.kind = 1 ∨ c.kind = 2) ∧ c.flags = 0 ∧ c.body.length = 10 then (if c.hello.ok then some c.hello else none) else none
def gapsAt (s : List UInt8) : Nat → Nat → List (Int × Int)
  | _, 0 => []
  | i, n + 1 => (at16 s i, at16 s (i + 2)) :: gapsAt s (i + 4) n
def Chunk.sack (c : Chunk) : Sack := ⟨at16 c.body 0, gapsAt c.body 2 (c.body.length / 4)⟩
def getSack (c : Chunk) : Option Sack :=
  if c.kind = 3 ∧ c.flags = 0 ∧ c.body.length % 4 = 2 then (if c.sack.ok then some c.sack else none) else none
/-! ## Associations -/

def likeP (a b : Part) : Bool := decide (a.stream = b.stream) && decide (a.ssn = b.ssn) && (a.loose == b.loose)
def ssnN (l : List Part) (stream : Int) : Nat := (l.filter fun d => d.first && !d.loose && decide (d.stream = stream)).length
def followS (l : List Part) (d : Part) : Bool :=
  match l.getLast? with
  | some x => if x.last then d.first && (d.loose || decide (d.ssn = ssnN l d.stream)) else !d.first && likeP d x
  | none => d.first && (d.loose || decide (d.ssn = ssnN l d.stream))

def partAt (s : Side) (i : Nat) : Bool :=
  (nth s.sent i).ok && decide ((nth s.sent i).tsn = addS s.first i) && decide ((nth s.sent i).stream < s.streams) && followS (s.sent.take i) (nth s.sent i)
def Side.ok (s : Side) : Bool :=
  if s.tag = 0 then decide (s.streams = 0) && decide (s.first = 0) && decide (s.sent.length = 0) && decide (s.acked = 0)
  else allTo (partAt s) s.sent.length && inB s.tag 1 4294967295 && inB s.streams 1 4 && inS s.first && decide (s.sent.length ≤ 12) && inB s.acked 0 s.sent.length

def Assoc.ok (x : Assoc) : Bool :=
  inB x.src 1 65535 && inB x.dst 1 65535 && decide (x.src ≠ x.dst) && inB x.state 0 7 && x.a.ok && x.b.ok &&
  (decide (0 < x.a.tag) == decide (1 ≤ x.state)) && (decide (x.state = 7) || (decide (0 < x.b.tag) == decide (2 ≤ x.state))) &&
  (decide (3 ≤ x.state) || decide (x.a.sent.length + x.b.sent.length ≤ 0)) && (!x.byB || decide (5 ≤ x.state))

def Assoc.side (x : Assoc) (byB : Bool) : Side := if byB then x.b else x.a
def Assoc.other (x : Assoc) (byB : Bool) : Side := if byB then x.a else x.b
def Assoc.with (x : Assoc) (byB : Bool) (s : Side) : Assoc := if byB then { x with b := s } else { x with a := s }

def stepHello (x : Assoc) (byB : Bool) (c : Chunk) : Assoc × Int :=
  let first := (x.state = 0 ∧ byB = false ∧ c.kind = 1) ∨ (x.state = 1 ∧ byB = true ∧ c.kind = 2)
  let again := ((1 ≤ x.state ∧ x.state ≤ 2) ∧ byB = false ∧ c.kind = 1) ∨ (x.state = 2 ∧ byB = true ∧ c.kind = 2)
  let s := x.side byB
  if ¬ first ∧ ¬ again then (x, 3) else
  match getHello c with
  | none => (x, 4)
  | some h =>
    if again ∧ (h.tag ≠ s.tag ∨ h.streams ≠ s.streams ∨ h.tsn ≠ s.first) then (x, 7) else
    if again then (x, 0) else
    ({ x with state := x.state + 1 }.with byB ⟨h.tag, h.streams, h.tsn, [], 0⟩, 0)

def stepPart (x : Assoc) (byB : Bool) (c : Chunk) : Assoc × Int :=
  let s := x.side byB
  let mayNew := x.state = 4 ∨ (x.state = 3 ∧ byB = false)
  let mayOld := mayNew ∨ (x.state = 5 ∧ byB ≠ x.byB)
  if ¬ mayOld then (x, 3) else
  match getPart c with
  | none => (x, 4)
  | some d =>
    let k := addS d.tsn (-s.first)
    if k < s.sent.length then (x, if nth s.sent k.toNat = d then 0 else 7) else
    if ¬ mayNew then (x, 3) else
    if d.stream ≥ s.streams then (x, 5) else
    if k > s.sent.length then (x, 6) else
    if followS s.sent d = false then (x, 8) else
    if s.sent.length ≥ 12 then (x, 11) else
    (x.with byB { s with sent := s.sent ++ [d] }, 0)

def stepSack (x : Assoc) (byB : Bool) (c : Chunk) : Assoc × Int :=
  let o := x.other byB
  if ¬ (4 ≤ x.state ∧ x.state ≤ 5) then (x, 3) else
  match getSack c with
  | none => (x, 4)
  | some k =>
    let fin := diffS (addS o.first (-1)) k.cum
    let most : Int := match k.gaps.getLast? with
      | some g => fin + g.2
      | none => fin
    if ¬ (0 ≤ fin ∧ fin ≤ o.sent.length) ∨ most > o.sent.length then (x, 9) else
    (x.with (!byB) { o with acked := max o.acked fin }, 0)

def stepEnd (x : Assoc) (byB : Bool) (kind : Int) : Assoc × Int :=
  let s := x.side byB
  let done := s.acked = s.sent.length
  if kind = 6 ∧ 1 ≤ x.state ∧ x.state ≤ 6 then ({ x with state := 7 }, 0) else
  if kind = 7 ∧ x.state = 4 ∧ ¬ done then (x, 10) else
  if kind = 7 ∧ x.state = 4 then ({ x with state := 5, byB := byB }, 0) else
  if kind = 7 ∧ (5 ≤ x.state ∧ x.state ≤ 6) ∧ byB = x.byB then (x, 0) else
  if kind = 8 ∧ x.state = 5 ∧ byB ≠ x.byB ∧ ¬ done then (x, 10) else
  if kind = 8 ∧ (5 ≤ x.state ∧ x.state ≤ 6) ∧ byB ≠ x.byB then ({ x with state := 6 }, 0) else
  if kind = 14 ∧ x.state = 6 ∧ byB = x.byB then ({ x with state := 7 }, 0) else (x, 3)

def stepCookie (x : Assoc) (byB : Bool) (kind : Int) : Assoc × Int :=
  if kind = 10 ∧ byB = false ∧ 2 ≤ x.state ∧ x.state ≤ 4 then ({ x with state := max x.state 3 }, 0) else
  if kind = 11 ∧ byB = true ∧ 3 ≤ x.state ∧ x.state ≤ 4 then ({ x with state := 4 }, 0) else
  if (kind = 4 ∨ kind = 5 ∨ kind = 9) ∧ 3 ≤ x.state ∧ x.state ≤ 6 then (x, 0) else (x, 3)

def stepC (x : Assoc) (byB : Bool) (c : Chunk) : Assoc × Int :=
  if c.kind = 1 ∨ c.kind = 2 then stepHello x byB c else
  if c.kind = 0 then stepPart x byB c else
  if c.kind = 3 then stepSack x byB c else
  if c.kind = 6 ∨ c.kind = 7 ∨ c.kind = 8 ∨ c.kind = 14 then stepEnd x byB c.kind else stepCookie x byB c.kind

/-- Chunk by chunk; which rules were broken. -/
def stepAll (byB : Bool) : List Chunk → Assoc → List Int → Assoc × List Int
  | [], x, r => (x, r)
  | c :: l, x, r => stepAll byB l (stepC x byB c).1 (r ++ [(stepC x byB c).2])

def tagS (x : Assoc) (byB : Bool) (p : Packet) : Int := if p.chunks.any (fun c => decide (c.kind = 1)) then 0 else (x.other byB).tag

/-- The rules that a packet breaks, in order. -/
def rulesS (x : Assoc) (byB : Bool) (p : Packet) : List Int :=
  ((List.range 12).map Int.ofNat).filter fun k => decide (1 ≤ k) && ((decide (k = 1) && !p.alone) || (decide (k = 2) && decide (p.tag ≠ tagS x byB p)) || decide (k ∈ (stepAll byB p.chunks x []).2))

def byBS (x : Assoc) (p : Packet) : Bool := decide (p.src = x.dst ∧ p.dst = x.src)
def mineS (x : Assoc) (p : Packet) : Bool := x.ok && p.ok && (byBS x p || decide (p.src = x.src ∧ p.dst = x.dst))

/-- An association after a packet, and the rules that it breaks. -/
def stepS (x : Assoc) (p : Packet) : Assoc × List Int :=
  if mineS x p then
    if rulesS x (byBS x p) p = [] then ((stepAll (byBS x p) p.chunks x []).1, []) else (x, rulesS x (byBS x p) p)
  else (zAssoc, [])
end

section
set_option maxRecDepth 20000
attribute [-simp] List.getD_eq_getElem?_getD

theorem tmod_pos {n k : Int} (h : 0 ≤ n) : n.tmod k = n % k := Int.tmod_eq_emod_of_nonneg h
theorem tmod_neg {n k : Int} (h : n ≤ 0) : n.tmod k = -((-n) % k) := by
  have : n.tmod k = (-(-n)).tmod k := by rw [Int.neg_neg]
  rw [this, Int.neg_tmod, tmod_pos (by omega)]
theorem add_eq {a n : Int} (h : 0 ≤ a ∨ (-1000 ≤ a ∧ -1000 ≤ n)) : (a + n.tmod 65536 + 65536).tmod 65536 = addS a n := by
  unfold addS
  rcases Int.le_total 0 n with q | q
  · rw [tmod_pos q, tmod_pos (by omega)]; omega
  · rw [tmod_neg q, tmod_pos (by omega)]; omega

theorem l3Add_ok (a n : Int) (ha : a ≤ 1000000000000) (hn : -1000000000000 ≤ n ∧ n ≤ 1000000000000) (h : 0 ≤ a ∨ (-1000 ≤ a ∧ -1000 ≤ n)) : Fn Tryd.prog fn_spec_l3Add [.int .i64 a, .int .i64 n] [] (.int .i64 (addS a n)) [] := by
  refine Fn.of_go ln_spec_l3Add rfl ?_
  have e := add_eq h
  have b : -65536 < n.tmod 65536 ∧ n.tmod 65536 < 65536 := by
    rcases Int.le_total 0 n with q | q
    · rw [tmod_pos q]; omega
    · rw [tmod_neg q]; omega
  simp [ac_spec_l3Add, e]
  exact ⟨by omega, by omega, Ends.mk [] [] (by simp)⟩

theorem impl_SerialAdd_ok (a n : Int) (hn : -1000000000000 ≤ n ∧ n ≤ 1000000000000) : Fn Tryd.prog fn_impl_SerialAdd [.int .i64 a, .int .i64 n] [] (.int .i64 (if inS a then addS a n else -1)) [] := by
  refine Fn.of_go ln_impl_SerialAdd rfl ?_
  simp [ac_impl_SerialAdd]
  refine goCall_eq (serialOk_ok a) (by simp) ?_
  simp
  refine goTest_bool (fun h => ?_) (fun h => ?_)
  · simp [h]
    have q1 := h
    simp [inS] at q1
    have b : -65536 < n.tmod 65536 ∧ n.tmod 65536 < 65536 := by
      rcases Int.le_total 0 n with q | q
      · rw [tmod_pos q]; omega
      · rw [tmod_neg q]; omega
    have b2 : -65536 < (a + n.tmod 65536).tmod 65536 ∧ (a + n.tmod 65536).tmod 65536 < 65536 := by
      rcases Int.le_total 0 (a + n.tmod 65536) with q | q
      · rw [tmod_pos q]; omega
      · rw [tmod_neg q]; omega
    have e : ((a + n.tmod 65536).tmod 65536 + 65536).tmod 65536 = addS a n := by
      unfold addS
      rw [tmod_pos (by omega)]
      rcases Int.le_total 0 n with q | q
      · rw [tmod_pos q, tmod_pos (by omega)]; omega
      · rw [tmod_neg q]
        rcases Int.le_total 0 (a + -(-n % 65536)) with q2 | q2
        · rw [tmod_pos q2]; omega
        · rw [tmod_neg q2]; omega
    refine ⟨by omega, by omega, ?_⟩
    rw [e]
    exact Ends.mk [] [] (by simp [h])
  · simp [h]
    exact Ends.mk [] [] (by simp [h])

/-- The checksum of a packet's bytes. -/
def sumP (s : List UInt8) : Int := sumS (s.take 8 ++ 0 :: 0 :: 0 :: 0 :: s.drop 12)
end

section
open Go.RowKit

set_option maxHeartbeats 1000000 in
set_option maxRecDepth 100000 in
theorem l3Add_walk (a n : Int) : ∃ r : Int, ∀ w : World, Calls Tryd.prog 59 #[.int .i64 a, .int .i64 n] w fun e w' => e = .returned (.int .i64 r) ∧ w' = w := by
  refine ⟨(wrap64 (wrap64 (a + n.tmod 65536) + 65536)).tmod 65536, fun w => ?_⟩
  go_enter Tryd.func59, Tryd.ntmps59
  go_wp2
  go_ret
  exact ⟨rfl, rfl⟩

theorem l3Add_any (a n : Int) : ∃ r : Int, Fn Tryd.prog fn_spec_l3Add [.int .i64 a, .int .i64 n] [] (.int .i64 r) [] := by
  obtain ⟨r, h⟩ := l3Add_walk a n
  refine ⟨r, Fn.of_below rfl rfl fun w γ vs hT hc => ?_⟩
  obtain ⟨v, u, rfl, hv, hu⟩ := arg2 hc
  obtain rfl := hv.int_inv
  obtain rfl := hu.int_inv
  refine (h w).mono fun e w' hex => ?_
  obtain ⟨rfl, rfl⟩ := hex
  exact ⟨_, rfl, Below.of_heap rfl rfl rfl rfl, .base (.int _ _)⟩

set_option maxHeartbeats 1000000 in
set_option maxRecDepth 100000 in
theorem l32Finding_walk (x y n : Int) : ∃ b : Bool, ∀ w : World, Calls Tryd.prog 28 #[.agg #[.int .i64 x, .int .i64 y], .int .i64 n] w fun e w' => e = .returned (.bool b) ∧ Below w.heap.size w w' := by
  refine ⟨inB x 0 (wrap64 (n - 1)) && (inB y 1 11 || inB y 101 105), fun w => ?_⟩
  have e6 : ∀ args w, (callFunc 30 args).run Tryd.prog w = .ok (.enter 30 args) w := enters_of Tryd.func30 (by kernel_rfl) rfl
  go_enter Tryd.func28, Tryd.ntmps28
  go_wp2
  all_goals go_ret
  all_goals
    refine ⟨congrArg (fun b => Ending.returned (Value.bool b)) ?_, Below.alloc (Below.of_heap rfl rfl rfl rfl) (Nat.le_refl _) _⟩
    simp only [inB, Array.getD_eq_getD_getElem?]
    rw [Bool.eq_iff_iff]
    simp
    omega

theorem l32Finding_any (f : Int × Int) (n : Int) : ∃ b : Bool, Fn Tryd.prog fn_spec_l32Finding [fV f, .int .i64 n] [] (.bool b) [] := by
  obtain ⟨b, h⟩ := l32Finding_walk f.1 f.2 n
  refine ⟨b, Fn.of_below rfl rfl fun w γ vs hT hc => ?_⟩
  obtain ⟨v, u, rfl, hv, hu⟩ := arg2 hc
  obtain rfl := hu.int_inv
  obtain ⟨us, rfl, hl, he⟩ := hv.agg_inv
  match us, hl with
  | [u0, u1], _ =>
    have h0 := he 0 (by simp) (by simp)
    have h1 := he 1 (by simp) (by simp)
    obtain rfl := h0.int_inv
    obtain rfl := h1.int_inv
    refine (h w).mono fun e w' hex => ?_
    obtain ⟨rfl, hb⟩ := hex
    exact ⟨_, rfl, hb, .base (.bool _)⟩
end

section
set_option maxRecDepth 20000
attribute [-simp] List.getD_eq_getElem?_getD

/-- A test holds of the first elements. -/
def AllTake {α : Type} (p : α → Bool) (l : List α) (i : Nat) : Prop := (l.take i).all p = true
theorem AllTake.zero {α : Type} {p : α → Bool} {l : List α} : AllTake p l 0 := by simp [AllTake]
theorem AllTake.succ {α : Type} [Inhabited α] {p : α → Bool} {l : List α} {i : Nat} (hp : AllTake p l i) (h : i < l.length) (h2 : p (nth l i) = true) : AllTake p l (i + 1) := by
  unfold AllTake at *
  rw [take_nth h, List.all_append, hp]; simp [h2]
theorem AllTake.all {α : Type} {p : α → Bool} {l : List α} (hp : AllTake p l l.length) : l.all p = true := by
  unfold AllTake at hp; rwa [List.take_length] at hp
def Packet.head (p : Packet) : Bool := decide ((1 ≤ p.src ∧ p.src ≤ 65535) ∧ (1 ≤ p.dst ∧ p.dst ≤ 65535) ∧ p.src ≠ p.dst ∧ (0 ≤ p.tag ∧ p.tag ≤ 4294967295) ∧ 1 ≤ p.chunks.length ∧ p.chunks.length ≤ 4)
end

section
set_option maxRecDepth 20000
attribute [-simp] List.getD_eq_getElem?_getD

theorem dataOk_ok (d : Part) : Fn Tryd.prog fn_impl_dataOk [d.v] [] (.bool d.ok) [] := by
  refine Fn.of_go ln_impl_dataOk rfl ?_
  simp [ac_impl_dataOk, Part.v, Part.cells]
  repeat' (first
    | (refine goTest_dec (fun h => ?_) (fun h => ?_) <;> simp [h])
    | (refine goTest_bool (fun h => ?_) (fun h => ?_) <;> simp [h])
    | (refine goCall_eq (serialOk_ok _) (by simp) ?_; simp)
    | exact Ends.mk [] [] (by simp [Part.ok, inB, *] <;> omega))

theorem l12Data_ok (d : Part) : Fn Tryd.prog fn_spec_l12Data [d.v] [] (.bool d.ok) [] := by
  refine Fn.of_go ln_spec_l12Data rfl ?_
  simp [ac_spec_l12Data, Part.v, Part.cells]
  repeat' (first
    | (refine goTest_dec (fun h => ?_) (fun h => ?_) <;> simp [h])
    | (refine goTest_bool (fun h => ?_) (fun h => ?_) <;> simp [h])
    | (refine goCall_eq (l3Ok_ok _) (by simp) ?_; simp)
    | (refine goCall_eq (l6In_ok _ _ _) (by simp) ?_; simp)
    | exact Ends.mk [] [] (by simp [Part.ok, *]))
end

section
set_option maxRecDepth 200000
attribute [-simp] List.getD_eq_getElem?_getD

end

section
set_option maxRecDepth 200000
attribute [-simp] List.getD_eq_getElem?_getD

end

section
set_option maxRecDepth 200000
attribute [-simp] List.getD_eq_getElem?_getD

theorem part_facts {d : Part} (h : d.ok = true) : inS d.tsn = true ∧ inS d.stream = true ∧ inS d.ssn = true ∧ 1 ≤ d.text.length ∧ d.text.length ≤ 20 := by
  simp [Part.ok, inB] at h
  exact ⟨h.1.1.1, h.1.1.2, h.1.2, by omega, by omega⟩

end

section
set_option maxRecDepth 200000
attribute [-simp] List.getD_eq_getElem?_getD

theorem likeParts_ok (a b : Part) : Fn Tryd.prog fn_impl_likeParts [a.v, b.v] [] (.bool (likeP a b)) [] := by
  refine Fn.of_go ln_impl_likeParts rfl ?_
  simp [ac_impl_likeParts, Part.v, Part.cells]
  repeat' (first
    | (refine goTest_dec (fun h => ?_) (fun h => ?_) <;> simp [h])
    | (refine goTest_bool (fun h => ?_) (fun h => ?_) <;> simp [h])
    | (refine Ends.mk [] [] ?_; simp [likeP, *] <;> fail))

theorem l22Same_ok (a b : Part) : Fn Tryd.prog fn_spec_l22Same [a.v, b.v] [] (.bool (likeP a b)) [] := by
  refine Fn.of_go ln_spec_l22Same rfl ?_
  simp [ac_spec_l22Same, Part.v, Part.cells]
  repeat' (first
    | (refine goTest_dec (fun h => ?_) (fun h => ?_) <;> simp [h])
    | (refine goTest_bool (fun h => ?_) (fun h => ?_) <;> simp [h])
    | (refine Ends.mk [] [] ?_; simp [likeP, *] <;> fail))

theorem ssnN_snoc {l : List Part} {s : Int} {i : Nat} (h : i < l.length) : ssnN (l.take (i + 1)) s = ssnN (l.take i) s + (if (nth l i).first = true ∧ (nth l i).loose = false ∧ (nth l i).stream = s then 1 else 0) := by
  unfold ssnN
  rw [take_nth h, List.filter_append, List.length_append]
  congr 1
  by_cases q : (nth l i).first = true ∧ (nth l i).loose = false ∧ (nth l i).stream = s
  · rw [if_pos q]; simp [q]
  · rw [if_neg q]
    have : ((nth l i).first && !(nth l i).loose && decide ((nth l i).stream = s)) = false := by
      cases h1 : (nth l i).first <;> cases h2 : (nth l i).loose <;> simp_all
    simp [this]
theorem ssnN_le (l : List Part) (s : Int) : ssnN l s ≤ l.length := List.length_filter_le _ _

theorem l31Ssn_ok (l : List Part) (s : Int) (hl : l.length ≤ 2000000) : Fn Tryd.prog fn_spec_l31Ssn [psl l, .int .i64 s] [] (.int .i64 (ssnN l s : Nat)) [] := by
  refine Fn.of_go ln_spec_l31Ssn rfl ?_
  simp [ac_spec_l31Ssn, psl]
  refine go_loop (fun i => { env := [(0, psl l), (1, .int .i64 s), (5, .int .i64 ((ssnN (l.take i) s : Nat) : Int)), (6, .int .i64 (i : Nat))], loc := [], box := [], stat := [] }) (fun i => i ≤ l.length) (fun i => l.length - i) 0 (by omega) (Weak.of [] [] (by simp [psl, ssnN])) ?_
  intro i hi
  simp [psl]
  refine goTest_dec (fun hlt => ?_) (fun hge => ?_)
  · have hs := ssnN_snoc (s := s) hlt
    have hle := ssnN_le (l.take i) s
    simp at hle
    simp [hlt, Part.v, Part.cells]
    generalize hx : nth l i = x at *
    repeat' (first
      | (refine goTest_dec (fun h => ?_) (fun h => ?_) <;> simp [h, hlt, hx, Part.v, Part.cells])
      | (refine goTest_bool (fun h => ?_) (fun h => ?_) <;> simp [h, hlt, hx, Part.v, Part.cells])
      | (refine And.intro (by omega) ?_)
      | (refine Again.mk (i + 1) hlt (by omega) (Weak.of [] [] ?_); simp [psl, hs, *] <;> fail))
  · obtain rfl : i = l.length := by omega
    simp
    exact Ends.mk [] [] (by simp)

theorem nth_last {α : Type} [Inhabited α] {l : List α} (h : l ≠ []) : l.getLast? = some (nth l (l.length - 1)) := by
  have hl := List.length_pos_iff.2 h
  rw [List.getLast?_eq_getElem?, nth_eq (by omega), List.getElem?_eq_getElem (by omega)]

theorem followS_nil (d : Part) : followS [] d = (d.first && (d.loose || decide (d.ssn = 0))) := rfl
theorem followS_ne {l : List Part} (h : l ≠ []) (d : Part) : followS l d = if (nth l (l.length - 1)).last then d.first && (d.loose || decide (d.ssn = ssnN l d.stream)) else !d.first && likeP d (nth l (l.length - 1)) := by
  unfold followS; rw [nth_last h]
theorem likeP_comm (a b : Part) : likeP a b = likeP b a := by
  rw [Bool.eq_iff_iff]; simp [likeP]
  constructor
  · rintro ⟨⟨h1, h2⟩, h3⟩; exact ⟨⟨h1.symm, h2.symm⟩, h3.symm⟩
  · rintro ⟨⟨h1, h2⟩, h3⟩; exact ⟨⟨h1.symm, h2.symm⟩, h3.symm⟩

theorem l31Follows_ok (l : List Part) (d : Part) (hl : l.length ≤ 2000000) : Fn Tryd.prog fn_spec_l31Follows [psl l, d.v] [] (.bool (followS l d)) [] := by
  refine Fn.of_go ln_spec_l31Follows rfl ?_
  have f1 := l31Ssn_ok l d.stream hl
  have f2 := l22Same_ok (nth l (l.length - 1)) d
  rw [likeP_comm] at f2
  simp only [Part.v, Part.cells, psl] at f1 f2
  by_cases h0 : l = []
  · subst h0
    rw [followS_nil]
    have f1 := l31Ssn_ok [] d.stream (by simp)
    simp [psl, ssnN] at f1
    simp [ac_spec_l31Follows, psl, Part.v, Part.cells]
    repeat' (first
      | (refine goTest_dec (fun h => ?_) (fun h => ?_) <;> simp [h])
      | (refine goTest_bool (fun h => ?_) (fun h => ?_) <;> simp [h])
      | (refine goCall_eq f1 (by simp) ?_; simp)
      | (refine goDCall_eq f1 (by simp) (by simp) ?_; simp)
      | (refine Ends.mk [] [] ?_; simp [*] <;> fail))
  · have hl0 := List.length_pos_iff.2 h0
    have e1 : ((l.length : Int) - 1).toNat = l.length - 1 := by omega
    have e2 : l.length - 1 < l.length := by omega
    rw [followS_ne h0]
    simp [ac_spec_l31Follows, psl, Part.v, Part.cells, hl0, e1, e2]
    repeat' (first
      | (refine goTest_dec (fun h => ?_) (fun h => ?_) <;> simp [h, hl0, e1, e2, Part.v, Part.cells])
      | (refine goTest_bool (fun h => ?_) (fun h => ?_) <;> simp [h, hl0, e1, e2, Part.v, Part.cells])
      | (refine goCall_eq f1 (by simp) ?_; simp)
      | (refine goDCall_eq f1 (by simp) (by simp) ?_; simp)
      | (refine goCall_eq f2 (by simp) ?_; simp)
      | (refine goDCall_eq f2 (by simp) (by simp) ?_; simp)
      | (have f3 := f2; simp only [h] at f3; refine goCall_eq f3 (by simp) ?_; simp)
      | (have f3 := f2; simp only [h] at f3; refine goDCall_eq f3 (by simp) (by simp) ?_; simp)
      | (refine And.intro (by omega) ?_)
      | (refine Ends.mk [] [] ?_; simp [*] <;> fail))

theorem mayFollow_ok (l : List Part) (d : Part) (hl : l.length ≤ 2000000) : Fn Tryd.prog fn_impl_mayFollow [psl l, d.v] [] (.bool (followS l d)) [] := by
  refine Fn.of_go ln_impl_mayFollow rfl ?_
  have f2 := likeParts_ok d (nth l (l.length - 1))
  simp only [Part.v, Part.cells] at f2
  by_cases h0 : l = []
  · have hf : followS l d = (d.first && (d.loose || decide (d.ssn = ssnN l d.stream))) := by rw [h0]; rfl
    rw [hf]
    simp [ac_impl_mayFollow, psl, Part.v, Part.cells, h0]
    repeat' (first
      | (refine goTest_dec (fun h => ?_) (fun h => ?_) <;> simp [h])
      | (refine goTest_bool (fun h => ?_) (fun h => ?_) <;> simp [h])
      | (refine Ends.mk [] [] ?_; simp [*] <;> fail)
      | (refine go_loop (fun i => { env := [(3, .ptr 3 0), (39, psl l), (40, .int .i64 (l.length : Nat)), (5, .int .i64 ((ssnN (l.take i) d.stream : Nat) : Int)), (41, .int .i64 (i : Nat))], loc := [], box := [(3, [.undef, .int .i64 d.stream, .int .i64 d.ssn, .undef, .undef, .undef, .undef])], stat := [] }) (fun i => i ≤ l.length) (fun i => l.length - i) 0 (by omega) (Weak.of [] [(3, 3)] (by simp [psl, ssnN, h0])) ?_))
    all_goals
      intro i hi
      simp [psl]
      refine goTest_dec (fun hlt => ?_) (fun hge => ?_)
      · exact absurd hlt (by rw [h0]; simp)
      · obtain rfl : i = l.length := by omega
        simp
        exact Ends.mk [] [] (by simp [*])
  · have hl0 := List.length_pos_iff.2 h0
    have e1 : ((l.length : Int) - 1).toNat = l.length - 1 := by omega
    have e2 : l.length - 1 < l.length := by omega
    rw [followS_ne h0]
    simp [ac_impl_mayFollow, psl, Part.v, Part.cells, hl0, e1, e2]
    repeat' (first
      | (refine goTest_dec (fun h => ?_) (fun h => ?_) <;> simp [h, hl0, e1, e2, Part.v, Part.cells])
      | (refine goTest_bool (fun h => ?_) (fun h => ?_) <;> simp [h, hl0, e1, e2, Part.v, Part.cells])
      | (refine goCall_eq f2 (by simp) ?_; simp)
      | (refine goDCall_eq f2 (by simp) (by simp) ?_; simp)
      | (have f3 := f2; simp only [h] at f3; refine goCall_eq f3 (by simp) ?_; simp)
      | (have f3 := f2; simp only [h] at f3; refine goDCall_eq f3 (by simp) (by simp) ?_; simp)
      | (refine And.intro (by omega) ?_)
      | (refine Ends.mk [] [] ?_; simp [*] <;> fail)
      | (refine go_loop (fun i => { env := [(3, .ptr 3 0), (39, psl l), (40, .int .i64 (l.length : Nat)), (5, .int .i64 ((ssnN (l.take i) d.stream : Nat) : Int)), (41, .int .i64 (i : Nat))], loc := [], box := [(3, [.undef, .int .i64 d.stream, .int .i64 d.ssn, .undef, .undef, .undef, .undef])], stat := [] }) (fun i => i ≤ l.length) (fun i => l.length - i) 0 (by omega) (Weak.of [] [(3, 3)] (by simp [psl, ssnN])) ?_))
    all_goals
      intro i hi
      simp [psl]
      refine goTest_dec (fun hlt => ?_) (fun hge => ?_)
      · have hs := ssnN_snoc (s := d.stream) hlt
        have hle := ssnN_le (l.take i) d.stream
        simp at hle
        simp [hlt, Part.v, Part.cells]
        generalize hx : nth l i = x at *
        repeat' (first
          | (refine goTest_dec (fun h => ?_) (fun h => ?_) <;> simp [h, hlt, hx, Part.v, Part.cells])
          | (refine goTest_bool (fun h => ?_) (fun h => ?_) <;> simp [h, hlt, hx, Part.v, Part.cells])
          | (refine And.intro (by omega) ?_)
          | (refine Again.mk (i + 1) hlt (by omega) (Weak.of [] [(3, 3)] ?_); simp [psl, hs, *] <;> fail))
      · obtain rfl : i = l.length := by omega
        simp
        exact Ends.mk [] [] (by simp [*])
end

section
set_option maxRecDepth 200000
attribute [-simp] List.getD_eq_getElem?_getD

/-- The numbers of a side are not out of all bounds. -/
def Side.bd (s : Side) : Prop := (-1000 ≤ s.first ∧ s.first ≤ 1000000000) ∧ s.sent.length ≤ 1000

theorem sideTag (s : Side) (h : ¬ s.tag = 0) : s.ok = (allTo (partAt s) s.sent.length && inB s.tag 1 4294967295 && inB s.streams 1 4 && inS s.first && decide (s.sent.length ≤ 12) && inB s.acked 0 s.sent.length) := by
  unfold Side.ok; rw [if_neg h]

theorem spec_SideValid_ok (s : Side) (hb : s.bd) : Fn Tryd.prog fn_spec_SideValid [s.v] [] (.bool s.ok) [] := by
  refine Fn.of_go ln_spec_SideValid rfl ?_
  obtain ⟨⟨hb1, hb2⟩, hb3⟩ := hb
  simp [ac_spec_SideValid, Side.v, Side.cells, psl]
  refine goTest_dec (fun h0 => ?_) (fun h0 => ?_)
  · have e : s.ok = (decide (s.streams = 0) && decide (s.first = 0) && decide (s.sent.length = 0) && decide (s.acked = 0)) := by unfold Side.ok; rw [if_pos h0]
    rw [e]
    simp [h0]
    repeat' (first
      | (refine goTest_dec (fun h => ?_) (fun h => ?_) <;> simp [h])
      | (refine Ends.mk [] [] ?_; simp [*] <;> fail))
  · rw [sideTag s h0]
    simp [h0]
    refine go_loop (fun i => { env := [(1, .ptr 1 0), (3, .int .i64 (i : Nat))], loc := [], box := [(1, s.cells)], stat := [] }) (fun i => i ≤ s.sent.length ∧ allTo (partAt s) i = true) (fun i => s.sent.length - i) 0 ⟨by omega, rfl⟩ (Weak.of [] [(1, 1)] (by simp [Side.cells, psl])) ?_
    rintro i ⟨hi, hp⟩
    simp [Side.cells, psl]
    refine goTest_dec (fun hlt => ?_) (fun hge => ?_)
    · have f1 := l12Data_ok (nth s.sent i)
      have f2 := l3Add_ok s.first i (by omega) (by omega) (by omega)
      have f3 := l31Follows_ok (s.sent.take i) (nth s.sent i) (by simp; omega)
      have hbad : partAt s i = false → allTo (partAt s) s.sent.length = false := allTo_false hlt
      have hgood : partAt s i = true → allTo (partAt s) (i + 1) = true := allTo_succ hp
      simp only [partAt] at hbad hgood
      simp [hlt, Part.v, Part.cells]
      generalize hx : nth s.sent i = x at *
      simp only [Part.v, Part.cells, psl, List.map_take] at f1 f3
      repeat' (first
        | (refine goTest_dec (fun h => ?_) (fun h => ?_) <;> simp [h])
        | (refine goTest_bool (fun h => ?_) (fun h => ?_) <;> simp [h])
        | (refine goDCall_eq f1 (by simp) (by simp) ?_; simp)
        | (refine goDCall_eq f2 (by simp) (by simp) ?_; simp)
        | (refine goDCall_eq f3 (by simp) (by simp) ?_; simp)
        | (refine goCall_eq f3 (by simp) ?_; simp)
        | (have f4 := f3; rw [‹x.tsn = addS s.first (i : Int)›] at f4; refine goCall_eq f4 (by simp) ?_; simp)
        | (refine And.intro (by omega) ?_)
        | (refine Again.mk (i + 1) ⟨hlt, hgood (by simp [*] <;> omega)⟩ (by omega) (Weak.of [] [(1, 1)] ?_); simp [Side.cells, psl] <;> fail)
        | (refine Ends.mk [] [] ?_; simp [hbad (by simp [*] <;> omega)] <;> fail))
    · obtain rfl : i = s.sent.length := by omega
      simp
      repeat' (first
        | (refine goTest_dec (fun h => ?_) (fun h => ?_) <;> simp [h])
        | (refine goTest_bool (fun h => ?_) (fun h => ?_) <;> simp [h])
        | (refine goCall_eq (l6In_ok _ _ _) (by simp) ?_; simp)
        | (refine goCall_eq (l3Ok_ok _) (by simp) ?_; simp)
        | (refine goDCall_eq (l6In_ok _ _ _) (by simp) (by simp) ?_; simp)
        | (refine goDCall_eq (l3Ok_ok _) (by simp) (by simp) ?_; simp)
        | (refine Ends.mk [] [] ?_; simp [*] <;> fail))

theorem impl_SideValid_ok (s : Side) (hb : s.bd) : Fn Tryd.prog fn_impl_SideValid [s.v] [] (.bool s.ok) [] := by
  refine Fn.of_go ln_impl_SideValid rfl ?_
  obtain ⟨⟨hb1, hb2⟩, hb3⟩ := hb
  simp [ac_impl_SideValid, Side.v, Side.cells, psl]
  refine goTest_dec (fun h0 => ?_) (fun h0 => ?_)
  · have e : s.ok = (decide (s.streams = 0) && decide (s.first = 0) && decide (s.sent.length = 0) && decide (s.acked = 0)) := by unfold Side.ok; rw [if_pos h0]
    rw [e]
    simp [h0]
    repeat' (first
      | (refine goTest_dec (fun h => ?_) (fun h => ?_) <;> simp [h])
      | (refine Ends.mk [] [] ?_; simp [*] <;> fail))
  · rw [sideTag s h0]
    simp [h0]
    have hh : ∀ b, (b = allTo (partAt s) s.sent.length) → (b && inB s.tag 1 4294967295 && inB s.streams 1 4 && inS s.first && decide (s.sent.length ≤ 12) && inB s.acked 0 s.sent.length) = (b && decide ((1 ≤ s.tag ∧ s.tag ≤ 4294967295) ∧ (1 ≤ s.streams ∧ s.streams ≤ 4) ∧ inS s.first = true ∧ s.sent.length ≤ 12 ∧ 0 ≤ s.acked ∧ s.acked ≤ s.sent.length)) := fun b _ => by
      cases b <;> simp [inB, Bool.and_assoc]
    rw [hh _ rfl]
    repeat' (first
      | (refine goTest_dec (fun h => ?_) (fun h => ?_) <;> simp [h])
      | (refine goTest_bool (fun h => ?_) (fun h => ?_) <;> simp [h])
      | (refine goCall_eq (serialOk_ok _) (by simp) ?_; simp)
      | (refine Ends.mk [] [] ?_; simp [*] <;> fail)
      | (refine Ends.mk [] [] ?_; simp [*] <;> omega)
      | (refine go_loop (fun i => { env := [(1, .ptr 1 0), (71, psl s.sent), (72, .int .i64 (s.sent.length : Nat)), (73, .int .i64 (i : Nat))], loc := [], box := [(1, s.cells)], stat := [] }) (fun i => i ≤ s.sent.length ∧ allTo (partAt s) i = true) (fun i => s.sent.length - i) 0 ⟨by omega, rfl⟩ (Weak.of [] [(1, 1)] (by simp [Side.cells, psl])) ?_))
    rename_i g1 g2 g3 g4 g5 g6 g7
    rintro i ⟨hi, hp⟩
    simp [Side.cells, psl]
    refine goTest_dec (fun hlt => ?_) (fun hge => ?_)
    · have f1 := dataOk_ok (nth s.sent i)
      have f2 := impl_SerialAdd_ok s.first i (by omega)
      rw [if_pos g5] at f2
      have f3 := mayFollow_ok (s.sent.take i) (nth s.sent i) (by simp; omega)
      have hbad : partAt s i = false → allTo (partAt s) s.sent.length = false := allTo_false hlt
      have hgood : partAt s i = true → allTo (partAt s) (i + 1) = true := allTo_succ hp
      simp only [partAt] at hbad hgood
      simp [hlt, Part.v, Part.cells]
      generalize hx : nth s.sent i = x at *
      simp only [Part.v, Part.cells, psl, List.map_take] at f1 f3
      repeat' (first
        | (refine goTest_dec (fun h => ?_) (fun h => ?_) <;> simp [h])
        | (refine goTest_bool (fun h => ?_) (fun h => ?_) <;> simp [h])
        | (refine goDCall_eq f1 (by simp) (by simp) ?_; simp)
        | (refine goDCall_eq f2 (by simp) (by simp) ?_; simp)
        | (refine goDCall_eq f3 (by simp) (by simp) ?_; simp)
        | (refine goCall_eq f3 (by simp) ?_; simp)
        | (have f4 := f3; rw [‹x.tsn = addS s.first (i : Int)›] at f4; refine goCall_eq f4 (by simp) ?_; simp)
        | (refine And.intro (by omega) ?_)
        | (refine Again.mk (i + 1) ⟨hlt, hgood (by simp [*] <;> omega)⟩ (by omega) (Weak.of [] [(1, 1)] ?_); simp [Side.cells, psl] <;> fail)
        | (refine Ends.mk [] [] ?_; simp [hbad (by simp [*] <;> omega)] <;> fail))
    · obtain rfl : i = s.sent.length := by omega
      simp
      exact Ends.mk [] [] (by simp [hp]; omega)
end

end Go.Proofs.YtnhhcfbigjpfeaaDoor
