/-
  The laws of monitors, in plain terms.
  Talks: their types, which are valid, how many parts they have.
  One chunk, by the program: receipts.
  One chunk, by the program: parts.
  One chunk, by the program.
  A packet, by the program.
  Captures and monitors, by the reference.
  Talks, by the reference: which are valid; parts.
  Talks, by the reference: parts.
  Talks, by the reference: packets, records.
  Talks, by the reference: all packets, records.
  Talks, by the reference: records.
  Talks drawn.
-/
import Derived.Test.YtnhhcfbigjpfeaaDoorQ22
import Derived.Test.YtnhhcfbigjpfeaaDoorQ20
namespace Go.Proofs.YtnhhcfbigjpfeaaDoor
set_option linter.all false

section
set_option maxRecDepth 20000
set_option maxHeartbeats 1000000
attribute [-simp] List.getD_eq_getElem?_getD

/-! ## Runs -/

structure Tap where
  time : Int
  text : List UInt8
deriving DecidableEq, Inhabited

def Tap.cells (r : Tap) : List V := [.int .i64 r.time, .str r.text]
def Tap.v (r : Tap) : V := .agg r.cells
end

section
set_option maxRecDepth 200000
set_option maxHeartbeats 4000000
attribute [-simp] List.getD_eq_getElem?_getD

structure Say where
  byB : Bool
  stream : Int
  loose : Bool
  text : List UInt8
deriving DecidableEq, Inhabited

def Say.cells (s : Say) : List V := [.bool s.byB, .int .i64 s.stream, .bool s.loose, .str s.text]
def Say.v (s : Say) : V := .agg s.cells

structure Talk where
  src : Int
  dst : Int
  a : Hello
  b : Hello
  size : Int
  says : List Say
deriving DecidableEq, Inhabited

def Talk.cells (t : Talk) : List V := [.int .i64 t.src, .int .i64 t.dst] ++ t.a.cells ++ t.b.cells ++ [.int .i64 t.size, .sl none 4 (t.says.map Say.v)]
def Talk.v (t : Talk) : V := .agg t.cells
/-- A talk that is not long. -/
structure Talk.bd (t : Talk) : Prop where
  says : t.says.length ≤ 1000
  text : ∀ x ∈ t.says, x.text.length ≤ 100000

def manyN (n z : Nat) : Nat := (n + z - 1) / z
def manyL (z : Nat) (b : Bool) : List Say → Nat
  | [] => 0
  | x :: r => (if x.byB = b then manyN x.text.length z else 0) + manyL z b r

def sayOk (t : Talk) (x : Say) : Bool := inB x.text.length 1 60 && (if x.byB then inB x.stream 0 (t.b.streams - 1) else inB x.stream 0 (t.a.streams - 1))
def Talk.head (t : Talk) : Bool := inB t.src 1 65535 && inB t.dst 1 65535 && decide (t.src ≠ t.dst) && t.a.ok && t.b.ok && inB t.size 1 20
def Talk.ok (t : Talk) : Bool := t.head && t.says.all (sayOk t) && decide (t.says.length ≤ 4) && decide (manyL t.size.toNat false t.says ≤ 12) && decide (manyL t.size.toNat true t.says ≤ 12)

/-- What is known of a valid talk. -/
structure TalkC (t : Talk) : Prop where
  a : t.a.ok = true
  b : t.b.ok = true
  size : 1 ≤ t.size ∧ t.size ≤ 20
  says : t.says.length ≤ 4
  text : ∀ x ∈ t.says, 1 ≤ x.text.length ∧ x.text.length ≤ 60
  ma : manyL t.size.toNat false t.says ≤ 12
  mb : manyL t.size.toNat true t.says ≤ 12

def Talk.tsn (t : Talk) (byB : Bool) : Int := if byB then t.b.tsn else t.a.tsn
end

section
set_option maxRecDepth 200000
set_option maxHeartbeats 4000000
attribute [-simp] List.getD_eq_getElem?_getD


end

section
set_option maxRecDepth 200000
set_option maxHeartbeats 4000000
attribute [-simp] List.getD_eq_getElem?_getD


end

section
set_option maxRecDepth 200000
set_option maxHeartbeats 8000000
attribute [-simp] List.getD_eq_getElem?_getD
end

section
set_option maxRecDepth 200000
set_option maxHeartbeats 8000000
attribute [-simp] List.getD_eq_getElem?_getD


theorem relCs_bools {M : Mp} {S : Stats} {E : Option (List Nat)} {B : Bm} : ∀ (l : List Bool), relCs M S E B (l.map V.bool) (l.map V.bool)
  | [] => trivial
  | a :: l => ⟨rfl, relCs_bools l⟩
theorem boolsV_map (f : Nat → Bool) : boolsV f = ((List.range 12).map f).map V.bool := by simp [boolsV]
@[simp] theorem relCs_boolsV {M : Mp} {S : Stats} {E : Option (List Nat)} {B : Bm} {f : Nat → Bool} : relCs M S E B (boolsV f) (boolsV f) = True := by
  rw [boolsV_map]; exact eq_true (relCs_bools _)
theorem take_bools (f : Nat → Bool) : (boolsV f).take 12 = boolsV f := List.take_of_length_le (by simp [boolsV])
end

section
set_option maxRecDepth 200000
set_option maxHeartbeats 4000000
attribute [-simp] List.getD_eq_getElem?_getD

/-! ## Monitors -/

def Monitor.own (σ τ : Nat) (m : Monitor) : V := .agg [.int .i64 m.records, .sl (some σ) 14 (m.list.map Assoc.v), .sl (some τ) 2 (m.found.map fV)]
theorem mon_v (m : Monitor) : m.v = .agg [.int .i64 m.records, .sl none 14 (m.list.map Assoc.v), .sl none 2 (m.found.map fV)] := rfl

/-- A monitor that is not long. -/
structure Monitor.bd (m : Monitor) : Prop where
  recs : -1000 ≤ m.records ∧ m.records ≤ 1000000
  len : m.list.length ≤ 1000
  each : ∀ x ∈ m.list, x.bd
  found : m.found.length ≤ 1000000

theorem l32Pair_ok (x y : Assoc) : Fn Tryd.prog fn_spec_l32Pair [x.v, y.v] [] (.bool (meet x.ports y.ports)) [] := by
  refine Fn.of_go ln_spec_l32Pair rfl ?_
  have e : meet x.ports y.ports = ((decide (x.src = y.src) && decide (x.dst = y.dst)) || (decide (x.src = y.dst) && decide (x.dst = y.src))) := rfl
  cases e1 : decide (x.src = y.src) <;> cases e2 : decide (x.dst = y.dst) <;> cases e3 : decide (x.src = y.dst) <;> cases e4 : decide (x.dst = y.src)
  all_goals
    rw [e1, e2, e3, e4] at e
    simp [ac_spec_l32Pair, assoc_v, e1, e2, e3, e4]
    rw [e]
    exact Ends.mk [] [] (by simp)

theorem samePorts_ok (x : Assoc) (a b : Int) : Fn Tryd.prog fn_impl_samePorts [x.v, .int .i64 a, .int .i64 b] [] (.bool (meet x.ports (a, b))) [] := by
  refine Fn.of_go ln_impl_samePorts rfl ?_
  have e : meet x.ports (a, b) = ((decide (x.src = a) && decide (x.dst = b)) || (decide (x.src = b) && decide (x.dst = a))) := rfl
  cases e1 : decide (x.src = a) <;> cases e2 : decide (x.dst = b) <;> cases e3 : decide (x.src = b) <;> cases e4 : decide (x.dst = a)
  all_goals
    rw [e1, e2, e3, e4] at e
    simp [ac_impl_samePorts, assoc_v, e1, e2, e3, e4]
    rw [e]
    exact Ends.mk [] [] (by simp)

structure Monitor.sm (m : Monitor) (n : Nat) : Prop where
  recs : 0 ≤ m.records ∧ m.records ≤ 60
  len : m.list.length ≤ 3
  each : ∀ x ∈ m.list, x.ok = true
  found : m.found.length ≤ n

theorem Monitor.sm.bd {m : Monitor} {n : Nat} (h : m.sm n) (hn : n ≤ 1000000) : m.bd :=
  ⟨by have := h.recs; omega, by have := h.len; omega, fun x hx => Assoc.ok_bd (h.each x hx), by have := h.found; omega⟩

end

section
set_option maxRecDepth 200000
set_option maxHeartbeats 4000000
attribute [-simp] List.getD_eq_getElem?_getD

end

section
set_option maxRecDepth 200000
set_option maxHeartbeats 4000000
attribute [-simp] List.getD_eq_getElem?_getD

end

section
set_option maxRecDepth 200000
set_option maxHeartbeats 8000000
attribute [-simp] List.getD_eq_getElem?_getD

end

section
set_option maxRecDepth 200000
set_option maxHeartbeats 8000000
attribute [-simp] List.getD_eq_getElem?_getD

end

section
set_option maxRecDepth 200000
set_option maxHeartbeats 8000000
attribute [-simp] List.getD_eq_getElem?_getD
end

section
set_option maxRecDepth 200000
set_option maxHeartbeats 8000000
attribute [-simp] List.getD_eq_getElem?_getD

/-- A talk that was drawn. -/
inductive TkR (src : List UInt8) (a k : Int) : V → List (List V) → Prop
  | mk (t : Talk) (b : Int) (h : t.says.length ≤ 5) (ht : ∀ x ∈ t.says, x.text.length ≤ 20) (hb : a ≤ b ∧ b ≤ a + k) : TkR src a k t.v [[bsl src, .int .i64 b]]
end

end Go.Proofs.YtnhhcfbigjpfeaaDoor
