/-
  The abstract code of a function, computed from its operations.
  The operations that only compute: each does in the model what it does in the abstract machine.
  The operations that only compute, continued.
-/
import Derived.Test.YtnhhcfbigjpfeaaDoorQ01
namespace Go.Proofs.YtnhhcfbigjpfeaaDoor
set_option linter.all false

section

def constCell : Value → Option V
  | .bool b => some (.bool b)
  | .int k n => some (.int k n)
  | .string s => some (.str s.data.toList)
  | .slice none 0 0 => some .nils
  | .pointer none => some .nilp
  | .nilFunc => some .undef
  | _ => none

def constCells : List Value → Option (List V)
  | [] => some []
  | v :: r => match constCell v, constCells r with
    | some x, some l => some (x :: l)
    | _, _ => none

def constV : Value → Option V
  | .agg cs => match constCells cs.toList with
    | some l => some (.agg l)
    | none => none
  | .nilIface => some .undef
  | v => constCell v

def stripX (L : Nat → Bool) : Operand → Option AX
  | .tmp t => some (if L t then .l t else .g t)
  | .const v => match constV v with
    | some x => some (.c x)
    | none => none
  | .global _ => none
  | .func f => some (.f f)

def stripD (L : Nat → Bool) (n : Nat) : Option Tmp → Option AD
  | none => some .no
  | some d => if d < n then some (if L d then .l d else .g d) else none

def stripXs (L : Nat → Bool) : List Operand → Option (List AX)
  | [] => some []
  | x :: r => match stripX L x, stripXs L r with
    | some y, some l => some (y :: l)
    | _, _ => none

def sizeT (P : Program) (t : TypeId) : Option Nat := (P.info? t).map (·.size)

/-- The cells of a type's zero value. -/
def zeroT (P : Program) (t : TypeId) : Option (List V) :=
  match P.info? t with
  | some i => match i.zero with
    | some z => constCells z.cells.toList
    | none => none
  | none => none

def zeroV (P : Program) (t : TypeId) : Option V :=
  match P.info? t with
  | some i => match i.zero with
    | some z => constV z
    | none => none
  | none => none

def aggT (P : Program) (t : TypeId) : Option Bool :=
  match P.underlying t with
  | some (.struct _) => some true
  | some (.array _ _) => some true
  | some _ => some false
  | none => none

def stripParts (P : Program) (L : Nat → Bool) (place : Nat → Option (Nat × Nat)) : List (Nat × Operand) → Option (List (Nat × Nat × AX))
  | [] => some []
  | (i, x) :: r => match place i, stripX L x, stripParts P L place r with
    | some (off, size), some y, some l => some ((off, size, y) :: l)
    | _, _, _ => none

/-- The kinds of the cells of a flat struct. -/
def flatF (P : Program) (i : Nat) : List Field → Option (List Nat)
  | [] => some []
  | f :: r => match flatF P (i + 1) r, aggT P f.type, sizeT P f.type, P.underlying f.type with
    | some l, some false, some 1, some u => if f.name ≠ "_" ∧ f.offset = i then (match u with
      | .int _ => some (0 :: l)
      | .bool => some (1 :: l)
      | .string => some (2 :: l)
      | _ => none) else none
    | _, _, _, _ => none

/-- The parts of a slice's literal: all of them, in order. -/
def stripLits (L : Nat → Bool) (k : Nat) : List (Nat × Operand) → Option (List AX)
  | [] => some []
  | (i, x) :: r => if i = k then match stripX L x, stripLits L (k + 1) r with
      | some y, some l => some (y :: l)
      | _, _ => none
    else none

def stripXO (L : Nat → Bool) : Option Operand → Option (Option AX)
  | none => some none
  | some x => match stripX L x with
    | some y => some (some y)
    | none => none

def stripBuiltin (P : Program) (L : Nat → Bool) (b : Builtin) (args : List AX) (ts : List TypeId) : Option AO :=
  match b, args, ts with
  | .len, [x], [t] => match P.underlying t with
    | some .string => some (.lenStr x)
    | some (.slice _) => some (.len x)
    | some (.array n _) => some (.lenArr n)
    | _ => none
  | .min, [x, y], _ => some (.min x y)
  | .max, [x, y], _ => some (.max x y)
  | .append, [x, y], [t, u] => match P.underlying t, P.underlying u with
    | some (.slice e), some (.slice _) => match P.info? e with
      | some i => match i.zero with
        | some z => if t = u ∧ z.cells.size = i.size ∧ 0 < i.bytes then some (.append i.size i.bytes x y) else none
        | none => none
      | none => none
    | some (.slice e), some .string => match P.info? e with
      | some i => match i.zero with
        | some z => if z.cells.size = 1 ∧ i.size = 1 ∧ i.bytes = 1 then some (.appStr e x y) else none
        | none => none
      | none => none
    | _, _ => none
  | _, _, _ => none

def stripO (P : Program) (L : Nat → Bool) (op : Op) : Option AO :=
  match op with
  | .move x => (stripX L x).map .mv
  | .assign x => (stripX L x).map .mv
  | .pick c a b => match stripX L c, stripX L a, stripX L b with
    | some c, some a, some b => some (.pick c a b)
    | _, _, _ => none
  | .alloc t => match zeroT P t with
    | some [.nilp, .nils] => some (.allocN t [.nils])
    | some z => some (.alloc z)
    | none => none
  | .box t x => (stripX L x).map .box
  | .build t parts => match P.underlying t, zeroT P t with
    | some (.struct fields), some z =>
      match fields.toList.mapM (fun f => (P.info? f.type).map fun i => (f.offset, i.size)) with
      | some places => (stripParts P L (fun i => places.toArray[i]?) parts.toList).map (.build z)
      | none => none
    | some (.array _ elem), some z => match sizeT P elem with
      | some s => (stripParts P L (fun i => some (i * s, s)) parts.toList).map (.build z)
      | none => none
    | _, _ => none
  | .buildSlice t n parts => match P.underlying t with
    | some (.slice e) => match sizeT P e, zeroT P e, stripLits L 0 parts.toList with
      | some s, some z, some l => if (l.length = n ∧ n * s ≤ 16777216 ∧ z.length = s) ∧ 0 < s then some (.lits s l) else none
      | _, _, _ => none
    | _ => none
  | .load t a => match aggT P t, sizeT P t, stripX L a with
    | some g, some n, some a => if g = true ∨ n = 1 then some (.load g n a) else none
    | _, _, _ => none
  | .store t a x => match sizeT P t, stripX L a, stripX L x with
    | some n, some a, some x => some (.store n a x)
    | _, _, _ => none
  | .nilCheck x => (stripX L x).map .nilc
  | .binOp op t x y _ => match P.underlying t, stripX L x, stripX L y with
    | some .bool, some x, some y => match op with
      | .eql => some (.beq false x y)
      | .neq => some (.beq true x y)
      | _ => none
    | some (.struct fs), some x, some y => match op, flatF P 0 fs.toList with
      | .eql, some ks => if P.eqGuardType P.depth t = false ∧ P.stoodInHeld t = false then some (.eqs false ks x y) else none
      | .neq, some ks => if P.eqGuardType P.depth t = false ∧ P.stoodInHeld t = false then some (.eqs true ks x y) else none
      | _, _ => none
    | some _, some x, some y => some (.bin op x y)
    | _, _, _ => none
  | .unOp op _ x => (stripX L x).map (.un op)
  | .convert src dst x => match P.underlying src, P.underlying dst, stripX L x with
    | some (.int _), some (.int k), some x => some (.conv k x)
    | some (.slice e), some .string, some x => match P.underlying e with
      | some (.int .u8) => some (.toStr x)
      | _ => none
    | _, _, _ => none
  | .makeFunc (.func f) first cap => if first.isEmpty then (stripXs L cap.toList).map (.mkfn f) else none
  | .makeSlice t l c => match P.underlying t with
    | some (.slice e) => match P.info? e, zeroV P e, zeroT P e, stripX L l, stripX L c with
      | some i, some z, some zs, some l, some c => if zs.length = i.size ∧ 0 < i.size ∧ 0 < i.bytes ∧ z.okEl = true ∧ z.stamps = [] ∧ z.cells.length = i.size then some (.make i.size i.bytes z l c) else none
      | _, _, _, _, _ => none
    | _ => none
  | .slice t x lo hi none => match P.underlying t, stripX L x, stripXO L lo, stripXO L hi with
    | some .string, some x, some lo, some hi => some (.cutStr x lo hi)
    | some (.slice e), some x, some lo, some hi => match sizeT P e with
      | some s => some (.cutSl s x lo hi)
      | none => none
    | _, _, _, _ => none
  | .fieldAddr s x f => match P.underlying s, stripX L x with
    | some (.struct fields), some x => match fields[f]? with
      | some fl => match sizeT P fl.type with
        | some n => if 0 < n then some (.faddr fl.offset x) else none
        | none => none
      | none => none
    | _, _ => none
  | .field s x f => match P.underlying s, stripX L x with
    | some (.struct fields), some x => match fields[f]? with
      | some fl => match aggT P fl.type, sizeT P fl.type with
        | some g, some n => if g = true ∨ n = 1 then some (.field g n fl.offset x) else none
        | _, _ => none
      | none => none
    | _, _ => none
  | .indexAddr t x i => match P.underlying t, stripX L x, stripX L i with
    | some (.slice e), some x, some i => (sizeT P e).map fun s => .elS s x i
    | some (.array n e), some x, some i => (sizeT P e).map fun s => .elA n s x i
    | _, _, _ => none
  | .index t x i => match P.underlying t, stripX L x, stripX L i with
    | some .string, some x, some i => some (.idxStr x i)
    | some (.array n e), some x, some i => match aggT P e, sizeT P e with
      | some g, some s => if g = true ∨ s = 1 then some (.idxArr n g s x i) else none
      | _, _ => none
    | _, _, _ => none
  | .extract x i => (stripX L x).map (.extract · i)
  | .call { callee := .builtin b, args, argTypes } => match stripXs L args.toList with
    | some l => stripBuiltin P L b l argTypes.toList
    | none => none
  | .call { callee := .value f, args, .. } => match stripX L f, stripXs L args.toList with
    | some (.f f), some l => some (.call f l)
    | some f, some l => some (.callv f l)
    | _, _ => none
  | _ => none
end

section

section inv
variable {S : Stats} {γ : Ghost} {w : World} {v : Value}

theorem VRel.int_inv {k : IntKind} {n : Int} (h : VRel S γ w (.int k n) v) : v = .int k n := by
  cases h with | base h => cases h; rfl
theorem VRel.bool_inv {b : Bool} (h : VRel S γ w (.bool b) v) : v = .bool b := by
  cases h with | base h => cases h; rfl
theorem VRel.str_inv {l : List UInt8} (h : VRel S γ w (.str l) v) : ∃ s : ByteArray, v = .string s ∧ s.data.toList = l := by
  cases h with | base h => cases h with | str l s h => exact ⟨s, rfl, h⟩
theorem VRel.nils_inv (h : VRel S γ w .nils v) : v = .slice none 0 0 := by
  cases h with | base h => cases h; rfl
theorem VRel.ptr_inv {d off : Nat} (h : VRel S γ w (.ptr d off) v) : ∃ g, v = .pointer (some ⟨g, off, none⟩) ∧ γ.bx d = some g := by
  cases h with
  | base h => cases h
  | ptr h => exact ⟨_, rfl, h⟩
theorem VRel.agg_inv {cs : List V} (h : VRel S γ w (.agg cs) v) : ∃ vs : List Value, v = .agg vs.toArray ∧ vs.length = cs.length ∧
    ∀ k (h : k < cs.length) (h' : k < vs.length), VRel S γ w (cs[k]) (vs[k]) := by
  cases h with
  | base h => cases h with | agg cs vs hl he => exact ⟨vs, rfl, hl, fun k h h' => .base (he k h h')⟩
  | agg cs vs hl he => exact ⟨vs, rfl, hl, he⟩
theorem VRel.tup_inv {cs : List V} (h : VRel S γ w (.tup cs) v) : ∃ vs : List Value, v = .tuple vs.toArray ∧ vs.length = cs.length ∧
    ∀ k (h : k < cs.length) (h' : k < vs.length), VRel S γ w (cs[k]) (vs[k]) := by
  cases h with
  | base h => cases h
  | tup cs vs hl he => exact ⟨vs, rfl, hl, he⟩
theorem VRel.elp_inv {s : V} {i j : Nat} (h : VRel S γ w (.elp s i j) v) : ∃ sz xs g off n cap, (s = .sl none sz xs ∨ (∃ σ, s = .sl (some σ) sz xs) ∨ (∃ σ t, s = .vw σ t sz xs)) ∧
    VRel S γ w s (.slice (some ⟨g, off, none⟩) n cap) ∧ i < xs.length ∧ v = .pointer (some ⟨g, off + i * sz + j, none⟩) := by
  cases h with
  | base h => cases h
  | elp s i j sz xs g off n cap hs h hi => exact ⟨sz, xs, g, off, n, cap, hs, h, hi, rfl⟩
theorem VRel.fn_inv {f : Nat} {cs : List V} (h : VRel S γ w (.fn f cs) v) : ∃ vs : List Value, v = .func (.func f) #[] vs.toArray ∧ vs.length = cs.length ∧
    ∀ k (h : k < cs.length) (h' : k < vs.length), VRel S γ w (cs[k]) (vs[k]) := by
  cases h with
  | base h => cases h
  | fn f cs vs hl he => exact ⟨vs, rfl, hl, he⟩

theorem VRel.sl_inv {σ : Option Nat} {sz : Nat} {xs : List V} (h : VRel S γ w (.sl σ sz xs) v) : v.isSl := by
  cases h with
  | base h => cases h <;> exact ⟨_, _, _, rfl⟩
  | own _ h => exact h.isSl
  | imm _ h => exact h.isSl
  | dead _ h => exact h
theorem VRel.vw_inv {σ sz : Nat} {t : Option Nat} {xs : List V} (h : VRel S γ w (.vw σ t sz xs) v) : v.isSl := by
  cases h with
  | base h => cases h
  | vown _ h _ _ => exact h.isSl
  | vimm _ h => exact h.isSl
  | vdead _ h => exact h
theorem VRel.nilb_inv {d t : Nat} (h : VRel S γ w (.nilb d t) v) : v = .pointer none := by
  cases h with
  | base h => cases h
  | nilb _ _ => rfl

theorem VRel.bb_inv {e σ : Nat} {l : List UInt8} (h : VRel S γ w (.bb e σ l) v) : ∃ a n c, v = .slice a n c := by
  cases h with
  | base h => cases h
  | bb hi _ _ => exact hi

theorem VRel.nilp_inv (h : VRel S γ w .nilp v) : v = .pointer none := by
  cases h with
  | base h => cases h
  | nilp => rfl

/-- What lies behind a slice that may be read. -/
def SlRead (O : Nat → Prop) (w : World) (sz : Nat) (xs : List V) (v : Value) : Prop :=
  ((∃ p, v = .slice p 0 0) ∧ xs = []) ∨
  ∃ (g off cap : Nat) (c : Array Value) (e : TypeId) (fr : Nat × Nat) (us : List Value), v = .slice (some ⟨g, off, none⟩) xs.length cap ∧ w.heap[g]? = some (.cells c e fr) ∧ xs.length ≤ cap ∧ cap ≤ maxLen ∧
    (∀ x ∈ xs, x.cells.length = sz) ∧ us.length = (flat xs).length ∧ (∀ k, k < us.length → c[off + k]? = us[k]?) ∧ (∀ u ∈ us, u.oneCell' = true) ∧
    (∀ k (h : k < (flat xs).length) (h' : k < us.length), PRel O w ((flat xs)[k]) (us[k]))

theorem PRel.slRead {O : Nat → Prop} {sz : Nat} {xs : List V} (h : PRel O w (.sl none sz xs) v) : SlRead O w sz xs v := by
  cases h with
  | slnil => exact .inl ⟨⟨_, rfl⟩, rfl⟩
  | sl sz xs g off cap c e fr us hg hO hcap hmax hsz hlen hus h1 hel => exact .inr ⟨g, off, cap, c, e, fr, us, rfl, hg, hcap, hmax, hsz, hlen, hus, h1, hel⟩

theorem OwnSl.slRead {σ top sz : Nat} {pre : Bool} {xs : List V} (h : OwnSl γ w σ top sz pre xs v) : SlRead γ.O w sz xs v := by
  rcases h with ⟨rfl, rfl⟩ | ⟨g, off, cap, c, e, fr, us, rfl, hg, hcap, hmax, hsz, hlen, hus, h1, hel, _⟩
  · exact .inl ⟨⟨none, rfl⟩, rfl⟩
  · exact .inr ⟨g, off, cap, c, e, fr, us, rfl, hg, hcap, hmax, hsz, hlen, hus, h1, hel⟩

theorem VRel.slRead {s : V} {sz : Nat} {xs : List V} (hs : s = .sl none sz xs ∨ (∃ σ, s = .sl (some σ) sz xs) ∨ (∃ σ t, s = .vw σ t sz xs)) (ha : aliveV S s) (h : VRel S γ w s v) :
    SlRead γ.O w sz xs v := by
  rcases hs with rfl | ⟨σ, rfl⟩ | ⟨σ, tt, rfl⟩
  · cases h with | base h => exact h.slRead
  · cases h with
    | base h => cases h
    | own hs h => exact h.slRead
    | imm hs h => exact h.slRead
    | dead hs _ => simp [aliveV, alive, hs] at ha
  · cases h with
    | base h => cases h
    | vown hs h _ _ => exact h.slRead
    | vimm hs h => exact h.slRead
    | vdead hs _ => simp [aliveV, alive, hs] at ha

theorem SlRead.pure {O : Nat → Prop} {sz : Nat} {xs : List V} (h : SlRead O w sz xs v) : PRel (fun _ => False) w (.sl none sz xs) v := by
  rcases h with ⟨⟨p, rfl⟩, rfl⟩ | ⟨g, off, cap, c, e, fr, us, rfl, hg, hcap, hmax, hsz, hlen, hus, h1, hel⟩
  · exact .slnil sz p
  · exact .sl sz xs g off cap c e fr us hg (fun h => h) hcap hmax hsz hlen hus h1 (fun k h h' => (hel k h h').mono fun g o _ h => ⟨fun h => h, h⟩)

theorem V.elems_cases {s : V} {xs : List V} (h : s.elems = some xs) : (s = .nils ∧ xs = []) ∨ ∃ sz, s = .sl none sz xs ∨ (∃ σ, s = .sl (some σ) sz xs) ∨ (∃ σ t, s = .vw σ t sz xs) := by
  cases s <;> simp [V.elems] at h
  · exact .inl ⟨rfl, h⟩
  · rename_i σ sz ys
    subst h
    cases σ
    · exact .inr ⟨sz, .inl rfl⟩
    · exact .inr ⟨sz, .inr (.inl ⟨_, rfl⟩)⟩
  · subst h; exact .inr ⟨_, .inr (.inr ⟨_, _, rfl⟩)⟩

/-- A value that fills cells, cell by cell. -/
theorem VRel.cells {x : V} (hx : x.okB = true) (h : VRel S γ w x v) : v.cells.size = x.cells.length ∧ (∀ k (h : k < x.cells.length) (h' : k < v.cells.size), VRel S γ w (x.cells[k]) (v.cells[k])) := by
  cases x with
  | undef => simp [V.okB] at hx
  | tup vs => simp [V.okB] at hx
  | agg cs =>
    obtain ⟨vs, rfl, hl, he⟩ := h.agg_inv
    exact ⟨by simp [V.cells, Value.cells, hl], fun k h h' => he k h (by simpa [Value.cells] using h')⟩
  | bool b => obtain rfl := h.bool_inv; exact ⟨rfl, fun k h1 h2 => by simp [V.cells] at h1; subst h1; exact h⟩
  | int k n => obtain rfl := h.int_inv; exact ⟨rfl, fun k h1 h2 => by simp [V.cells] at h1; subst h1; exact h⟩
  | str l => obtain ⟨s, rfl, _⟩ := h.str_inv; exact ⟨rfl, fun k h1 h2 => by simp [V.cells] at h1; subst h1; exact h⟩
  | nils => obtain rfl := h.nils_inv; exact ⟨rfl, fun k h1 h2 => by simp [V.cells] at h1; subst h1; exact h⟩
  | sl σ sz xs => obtain ⟨_, _, _, rfl⟩ := h.sl_inv; exact ⟨rfl, fun k h1 h2 => by simp [V.cells] at h1; subst h1; exact h⟩
  | vw σ t sz xs => obtain ⟨_, _, _, rfl⟩ := h.vw_inv; exact ⟨rfl, fun k h1 h2 => by simp [V.cells] at h1; subst h1; exact h⟩
  | ptr d off => obtain ⟨g, rfl, _⟩ := h.ptr_inv; exact ⟨rfl, fun k h1 h2 => by simp [V.cells] at h1; subst h1; exact h⟩
  | nilp => obtain rfl := h.nilp_inv; exact ⟨rfl, fun k h1 h2 => by simp [V.cells] at h1; subst h1; exact h⟩
  | elp s i j => obtain ⟨_, _, _, _, _, _, _, _, _, rfl⟩ := h.elp_inv; exact ⟨rfl, fun k h1 h2 => by simp [V.cells] at h1; subst h1; exact h⟩
  | fn f cs => obtain ⟨vs, rfl, _⟩ := h.fn_inv; exact ⟨rfl, fun k h1 h2 => by simp [V.cells] at h1; subst h1; exact h⟩
  | nilb d t => obtain rfl := h.nilb_inv; exact ⟨rfl, fun k h1 h2 => by simp [V.cells] at h1; subst h1; exact h⟩
  | bb e σ l => obtain ⟨_, _, _, rfl⟩ := h.bb_inv; exact ⟨rfl, fun k h1 h2 => by simp [V.cells] at h1; subst h1; exact h⟩
theorem VRel.one1 {x : V} (hx : x.flat1 = true) (h : VRel S γ w x v) : v.oneCell' = true := by
  cases x with
  | undef => simp [V.flat1] at hx
  | tup vs => simp [V.flat1] at hx
  | agg cs => simp [V.flat1] at hx
  | bool b => obtain rfl := h.bool_inv; rfl
  | int k n => obtain rfl := h.int_inv; rfl
  | str l => obtain ⟨s, rfl, _⟩ := h.str_inv; rfl
  | nils => obtain rfl := h.nils_inv; rfl
  | sl σ sz xs => obtain ⟨_, _, _, rfl⟩ := h.sl_inv; rfl
  | vw σ t sz xs => obtain ⟨_, _, _, rfl⟩ := h.vw_inv; rfl
  | ptr d off => obtain ⟨g, rfl, _⟩ := h.ptr_inv; rfl
  | nilp => obtain rfl := h.nilp_inv; rfl
  | elp s i j => obtain ⟨_, _, _, _, _, _, _, _, _, rfl⟩ := h.elp_inv; rfl
  | fn f cs => obtain ⟨vs, rfl, _⟩ := h.fn_inv; rfl
  | nilb d t => obtain rfl := h.nilb_inv; rfl
  | bb e σ l => obtain ⟨_, _, _, rfl⟩ := h.bb_inv; rfl

theorem V.cells_flat1 {x : V} (hx : x.okB = true) : ∀ c ∈ x.cells, c.flat1 = true := by
  cases x <;> simp_all [V.okB, V.cells, V.flat1]

theorem VRel.one {x : V} (hx : x.okB = true) (h : VRel S γ w x v) : ∀ u ∈ v.cells, u.oneCell' = true := by
  obtain ⟨h1, h2⟩ := h.cells hx
  intro u hu
  obtain ⟨k, hk, rfl⟩ := Array.mem_iff_getElem.1 hu
  exact (h2 k (by omega) hk).one1 (V.cells_flat1 hx _ (List.getElem_mem _))
end inv

/-- What an operation does: it yields a value, and the world and the state part ways nowhere. -/
def Runs (P : Program) (L : Nat → Bool) (n : Nat) (K : Ctx) (st' : St) (dst : Option Tmp) (o : Oper) (a : Act) (w : World) : Prop :=
  ∃ v w' γ', ((execOp a.eval o).run P w = .ok (.value v) w' ∨ ((execOp a.eval o).run P w = .ok .skip w' ∧ v = undef)) ∧ SRel L n K st' γ' (a.put dst v) w'

section ops
variable {P : Program} {L : Nat → Bool} {n : Nat} {K : Ctx} {st : St} {γ : Ghost} {a : Act} {w : World} {o : Oper} {dst : AD}

theorem Runs.pure (h : SRel L n K st γ a w) (hd : dst.ok L n) {x : V} {v : Value} (hv : VRel st.stat γ w x v) (hr : (execOp a.eval o).run P w = .ok (.value v) w) {cl : Cls} :
    Runs P L n K (Delta.apply { val := x, cls := cl } st dst) dst.toOpt o a w :=
  ⟨v, w, γ, .inl hr, h.pure hd hv⟩

theorem constCell_rel {v : Value} {x : V} (h : constCell v = some x) (S : Stats) (γ : Ghost) (w : World) : VRel S γ w x v := by
  unfold constCell at h
  split at h <;> first | (obtain rfl := Option.some.inj h) | cases h
  · exact .base (.bool _)
  · exact .base (.int _ _)
  · exact .base (.str _ _ rfl)
  · exact .base .nils
  · exact .nilp
  · exact .base (.undef _)

theorem constCells_rel : ∀ {vs : List Value} {xs : List V} (h : constCells vs = some xs) (S : Stats) (γ : Ghost) (w : World),
    vs.length = xs.length ∧ ∀ k (h : k < xs.length) (h' : k < vs.length), VRel S γ w (xs[k]) (vs[k])
  | [], xs, h, S, γ, w => by
    simp [constCells] at h; subst h; exact ⟨rfl, fun k h => by simp at h⟩
  | v :: r, xs, h, S, γ, w => by
    unfold constCells at h
    split at h
    · rename_i x l hx hl
      obtain rfl := Option.some.inj h
      obtain ⟨h1, h2⟩ := constCells_rel hl S γ w
      refine ⟨by simp [h1], fun k hk hk' => ?_⟩
      cases k with
      | zero => exact constCell_rel hx S γ w
      | succ k => exact h2 k (by simpa using hk) (by simpa using hk')
    · cases h

theorem constV_rel {v : Value} {x : V} (h : constV v = some x) (S : Stats) (γ : Ghost) (w : World) : VRel S γ w x v := by
  unfold constV at h
  split at h
  · rename_i cs
    split at h
    · rename_i l hl
      obtain rfl := Option.some.inj h
      obtain ⟨h1, h2⟩ := constCells_rel hl S γ w
      exact .agg l cs.toList h1 h2
    · cases h
  · obtain rfl := Option.some.inj h
    exact .base (.undef _)
  · exact constCell_rel h S γ w

theorem stripX_rel (h : SRel L n K st γ a w) {x : Operand} {y : AX} (hx : stripX L x = some y) : VRel st.stat γ w (st.val y) (a.eval x) := by
  cases x with
  | tmp t =>
    obtain rfl := Option.some.inj hx
    exact h.val t
  | const v =>
    simp only [stripX] at hx
    split at hx
    · obtain rfl := Option.some.inj hx
      exact constV_rel ‹_› _ _ _
    · cases hx
  | global g => cases hx
  | func f =>
    obtain rfl := Option.some.inj hx
    exact .fn f [] [] rfl (fun k h => by simp at h)

theorem sound_mv (h : SRel L n K st γ a w) (hd : dst.ok L n) {x : Operand} {y : AX} (hop : o.op = .move x ∨ o.op = .assign x) (hx : stripX L x = some y) {d : Nat} {p : Prop} {δ : Delta}
    (hδ : astep st d (.mv y) = some (p, δ)) (hp : p) : Runs P L n K (δ.apply st dst) dst.toOpt o a w := by
  simp only [astep, Option.some.injEq, Prod.mk.injEq] at hδ
  obtain ⟨rfl, rfl⟩ := hδ
  exact Runs.pure h hd (stripX_rel h hx) (by rcases hop with hop | hop <;> simp [execOp, hop])

theorem inR_wrap {k : IntKind} {m : Int} (h : inR k m) : k.wrap m = m := by
  unfold inR at h
  cases k <;> first | exact h | (simp only [IntKind.wrap, IntKind.bits, IntKind.signed] at *; simp; omega)

theorem bin_run_int (op : BinOp) {k k' : IntKind} {a b : Int} {p : Prop} {r : V} (hb : binV op (.int k a) (.int k' b) = some (p, r)) (hp : p) (t : TypeId) (w : World) :
    (∃ m, r = .int k m ∧ (binOp op t (.int k a) (.int k' b)).run P w = .ok (.int k m) w) ∨ (∃ c, r = .bool c ∧ (binOp op t (.int k a) (.int k' b)).run P w = .ok (.bool c) w) := by
  simp only [binV] at hb
  split at hb <;> first | (simp only [Option.some.injEq, Prod.mk.injEq] at hb; obtain ⟨rfl, rfl⟩ := hb) | cases hb
  · obtain ⟨rfl, h⟩ := hp; exact .inl ⟨_, rfl, by simp [binOp, Op.intArith, inR_wrap h]⟩
  · obtain ⟨rfl, h⟩ := hp; exact .inl ⟨_, rfl, by simp [binOp, Op.intArith, inR_wrap h]⟩
  · obtain ⟨rfl, h⟩ := hp; exact .inl ⟨_, rfl, by simp [binOp, Op.intArith, inR_wrap h]⟩
  · obtain ⟨rfl, h0, h⟩ := hp; exact .inl ⟨_, rfl, by simp [binOp, Op.intDiv, inR_wrap h, h0]⟩
  · obtain ⟨rfl, h0⟩ := hp; exact .inl ⟨_, rfl, by simp [binOp, Op.intDiv, h0]⟩
  · obtain rfl := hp; exact .inl ⟨_, rfl, by simp [binOp, Op.intBits, bitsV]⟩
  · obtain rfl := hp; exact .inl ⟨_, rfl, by simp [binOp, Op.intBits, bitsV]⟩
  · obtain rfl := hp; exact .inl ⟨_, rfl, by simp [binOp, Op.intBits, bitsV]⟩
  · obtain ⟨h0, h1, h, h2⟩ := hp; exact .inl ⟨_, rfl, by simp [binOp, Op.shift, Nat.min_eq_left h2, inR_wrap h, Int.not_lt.2 h0]⟩
  · obtain ⟨h0, h2⟩ := hp; exact .inl ⟨_, rfl, by simp [binOp, Op.shift, Nat.min_eq_left h2, Int.not_lt.2 h0]⟩
  · obtain rfl := hp; exact .inr ⟨_, rfl, by simp [binOp, Op.intCmp]; rfl⟩
  · obtain rfl := hp; exact .inr ⟨_, rfl, by simp [binOp, Op.intCmp]; rfl⟩
  · obtain rfl := hp; exact .inr ⟨_, rfl, by simp [binOp, Op.intCmp]⟩
  · obtain rfl := hp; exact .inr ⟨_, rfl, by simp [binOp, Op.intCmp]⟩
  · obtain rfl := hp; exact .inr ⟨_, rfl, by simp [binOp, Op.intCmp]⟩
  · obtain rfl := hp; exact .inr ⟨_, rfl, by simp [binOp, Op.intCmp]⟩

theorem bin_run_str (op : BinOp) {a b : ByteArray} {p : Prop} {r : V} (hb : binV op (.str a.data.toList) (.str b.data.toList) = some (p, r)) (hp : p) (t : TypeId) (w : World) :
    (∃ s : ByteArray, r = .str s.data.toList ∧ (binOp op t (.string a) (.string b)).run P w = .ok (.string s) w) ∨ (∃ c, r = .bool c ∧ (binOp op t (.string a) (.string b)).run P w = .ok (.bool c) w) := by
  have hl : ∀ x : ByteArray, x.toList = x.data.toList := fun x => ByteArray.toList_eq x
  have hbb := hb
  clear hb
  have hb : (a.data.toList == b.data.toList) = decide (a.data.toList = b.data.toList) := by
    rw [Bool.eq_iff_iff]; simp
  simp only [binV] at hbb
  split at hbb <;> first | (simp only [Option.some.injEq, Prod.mk.injEq] at hbb; obtain ⟨rfl, rfl⟩ := hbb) | cases hbb
  · refine .inl ⟨a ++ b, by simp, ?_⟩
    have h1 : a.data.toList.length = a.size := by simp
    have h2 : b.data.toList.length = b.size := by simp
    rw [h1, h2] at hp
    have : ¬ (((a.size + b.size : Nat) : Int) > IntKind.i64.max) := by simp [IntKind.max, IntKind.signed, IntKind.bits]; omega
    simp only [binOp, Op.stringOp]
    rw [if_neg this]
    simp
  · exact .inr ⟨_, rfl, by simp only [binOp, Op.stringOp, hl, hb]; rfl⟩
  · exact .inr ⟨_, rfl, by simp only [binOp, Op.stringOp, hl, hb]; rfl⟩

theorem eqGuard_run (op : BinOp) (t : TypeId) (X Y : Operand) {u v : Value} (h : ∀ cs, u ≠ .agg cs) (h' : u ≠ .nilIface) (w : World) : (eqGuard op t X Y u v).run P w = .ok () w := by
  unfold eqGuard
  cases op <;> first | (simp; done) | skip
  all_goals cases u <;> first | (exact absurd rfl (h _)) | (exact absurd rfl h') | simp

theorem sound_bin (h : SRel L n K st γ a w) (hd : dst.ok L n) {op : BinOp} {t t' : TypeId} {X Y : Operand} {x y : AX} (hop : o.op = .binOp op t X Y t') (hx : stripX L X = some x) (hy : stripX L Y = some y)
    {d : Nat} {p : Prop} {δ : Delta} (hδ : astep st d (.bin op x y) = some (p, δ)) (hp : p) : Runs P L n K (δ.apply st dst) dst.toOpt o a w := by
  have rx := stripX_rel h hx
  have ry := stripX_rel h hy
  simp only [astep] at hδ
  split at hδ
  · rename_i q r hb
    simp only [Option.some.injEq, Prod.mk.injEq] at hδ
    obtain ⟨rfl, rfl⟩ := hδ
    generalize st.val x = vx at rx hb
    generalize st.val y = vy at ry hb
    have hb' := hb
    unfold binV at hb
    split at hb
    · clear hb
      have ex := rx.int_inv
      have ey := ry.int_inv
      have hg := eqGuard_run (P := P) op t X Y (u := a.eval X) (v := a.eval Y) (by rw [ex]; simp) (by rw [ex]; simp) w
      rcases bin_run_int (P := P) op hb' hp t w with ⟨m, rfl, hr⟩ | ⟨c, rfl, hr⟩
      · exact Runs.pure h hd (.base (.int _ _)) (by simp [execOp, hop, hg]; rw [ex, ey, hr]; rfl)
      · exact Runs.pure h hd (.base (.bool _)) (by simp [execOp, hop, hg]; rw [ex, ey, hr]; rfl)
    · clear hb
      obtain ⟨sx, ex, rfl⟩ := rx.str_inv
      obtain ⟨sy, ey, rfl⟩ := ry.str_inv
      have hg := eqGuard_run (P := P) op t X Y (u := a.eval X) (v := a.eval Y) (by rw [ex]; simp) (by rw [ex]; simp) w
      rcases bin_run_str (P := P) op hb' hp t w with ⟨m, rfl, hr⟩ | ⟨c, rfl, hr⟩
      · exact Runs.pure h hd (.base (.str _ _ rfl)) (by simp [execOp, hop, hg]; rw [ex, ey, hr]; rfl)
      · exact Runs.pure h hd (.base (.bool _)) (by simp [execOp, hop, hg]; rw [ex, ey, hr]; rfl)
    · cases hb
  · cases hδ

end ops
end

section

section ops
variable {P : Program} {L : Nat → Bool} {n : Nat} {K : Ctx} {st : St} {γ : Ghost} {a : Act} {w : World} {o : Oper} {dst : AD}

theorem sound_beq (h : SRel L n K st γ a w) (hd : dst.ok L n) {neg : Bool} {t t' : TypeId} {X Y : Operand} {x y : AX} (hop : o.op = .binOp (if neg then .neq else .eql) t X Y t') (ht : P.underlying t = some .bool)
    (hx : stripX L X = some x) (hy : stripX L Y = some y)
    {d : Nat} {p : Prop} {δ : Delta} (hδ : astep st d (.beq neg x y) = some (p, δ)) (hp : p) : Runs P L n K (δ.apply st dst) dst.toOpt o a w := by
  have rx := stripX_rel h hx
  have ry := stripX_rel h hy
  simp only [astep] at hδ
  split at hδ <;> try (cases hδ; done)
  rename_i b c eb ec
  rw [eb] at rx; rw [ec] at ry
  simp only [Option.some.injEq, Prod.mk.injEq] at hδ
  obtain ⟨rfl, rfl⟩ := hδ
  have ex := rx.bool_inv
  have ey := ry.bool_inv
  have hg := eqGuard_run (P := P) (if neg then BinOp.neq else BinOp.eql) t X Y (u := a.eval X) (v := a.eval Y) (by rw [ex]; simp) (by rw [ex]; simp) w
  have he : (Op.equal t (.bool b) (.bool c)).run P w = .ok (b == c) w := by
    unfold Op.equal
    show (Op.equalIn (9999 + 1) t (.bool b) (.bool c)).run P w = _
    rw [Op.equalIn]
    simp only [Sem.run_bind, run_underlying ht, Result.andThen]
    rfl
  refine Runs.pure h hd (v := .bool (if neg then b != c else b == c)) (.base (.bool _)) ?_
  simp only [execOp, hop, Sem.run_bind, hg, Result.andThen]
  rw [ex, ey]
  cases neg
  · simp [binOp, he]
  · simp [binOp, he]; cases b <;> cases c <;> rfl

theorem sound_pick (h : SRel L n K st γ a w) (hd : dst.ok L n) {C A B : Operand} {c x y : AX} (hop : o.op = .pick C A B) (hc : stripX L C = some c) (hx : stripX L A = some x) (hy : stripX L B = some y)
    {d : Nat} {p : Prop} {δ : Delta} (hδ : astep st d (.pick c x y) = some (p, δ)) (hp : p) : Runs P L n K (δ.apply st dst) dst.toOpt o a w := by
  have rc := stripX_rel h hc
  have rx := stripX_rel h hx
  have ry := stripX_rel h hy
  simp only [astep] at hδ
  split at hδ <;> try (cases hδ; done)
  rename_i b eb
  rw [eb] at rc
  simp only [Option.some.injEq, Prod.mk.injEq] at hδ
  obtain ⟨rfl, rfl⟩ := hδ
  have ex := rc.bool_inv
  refine Runs.pure h hd (v := if b then a.eval A else a.eval B) (by cases b <;> assumption) ?_
  simp [execOp, hop, ex, asBool]

theorem sound_un (h : SRel L n K st γ a w) (hd : dst.ok L n) {op : UnOp} {t : TypeId} {X : Operand} {x : AX} (hop : o.op = .unOp op t X) (hx : stripX L X = some x)
    {d : Nat} {p : Prop} {δ : Delta} (hδ : astep st d (.un op x) = some (p, δ)) (hp : p) : Runs P L n K (δ.apply st dst) dst.toOpt o a w := by
  have rx := stripX_rel h hx
  simp only [astep] at hδ
  split at hδ <;> try (cases hδ; done)
  rename_i q r hb
  simp only [Option.some.injEq, Prod.mk.injEq] at hδ
  obtain ⟨rfl, rfl⟩ := hδ
  generalize st.val x = vx at rx hb
  unfold unV at hb
  split at hb <;> first | (simp only [Option.some.injEq, Prod.mk.injEq] at hb; obtain ⟨rfl, rfl⟩ := hb) | cases hb
  · exact Runs.pure h hd (.base (.bool _)) (by simp [execOp, hop, rx.bool_inv, Op.unary])
  · exact Runs.pure h hd (.base (.int _ _)) (by
      have := inR_wrap hp
      simp [execOp, hop, rx.int_inv, Op.unary, Op.intArith, this])

theorem sound_conv (h : SRel L n K st γ a w) (hd : dst.ok L n) {src t : TypeId} {j k : IntKind} {X : Operand} {x : AX} (hop : o.op = .convert src t X) (hs : P.underlying src = some (.int j)) (ht : P.underlying t = some (.int k)) (hx : stripX L X = some x)
    {d : Nat} {p : Prop} {δ : Delta} (hδ : astep st d (.conv k x) = some (p, δ)) (hp : p) : Runs P L n K (δ.apply st dst) dst.toOpt o a w := by
  have rx := stripX_rel h hx
  simp only [astep] at hδ
  split at hδ <;> try (cases hδ; done)
  rename_i k' m e
  rw [e] at rx
  simp only [Option.some.injEq, Prod.mk.injEq] at hδ
  obtain ⟨rfl, rfl⟩ := hδ
  exact Runs.pure h hd (.base (.int _ _)) (by simp [execOp, hop, rx.int_inv, convert, run_underlying hs, run_underlying ht, Conv.intToInt])

theorem sound_nilc (h : SRel L n K st γ a w) (hd : dst.ok L n) {X : Operand} {x : AX} (hop : o.op = .nilCheck X) (hx : stripX L X = some x)
    {d : Nat} {p : Prop} {δ : Delta} (hδ : astep st d (.nilc x) = some (p, δ)) (hp : p) : Runs P L n K (δ.apply st dst) dst.toOpt o a w := by
  have rx := stripX_rel h hx
  simp only [astep] at hδ
  split at hδ <;> try (cases hδ; done)
  · rename_i b off e
    rw [e] at rx
    simp only [Option.some.injEq, Prod.mk.injEq] at hδ
    obtain ⟨rfl, rfl⟩ := hδ
    obtain ⟨g, eg, _⟩ := rx.ptr_inv
    exact Runs.pure h hd rx (by simp [execOp, hop, eg])
  · rename_i s i j e
    rw [e] at rx
    simp only [Option.some.injEq, Prod.mk.injEq] at hδ
    obtain ⟨rfl, rfl⟩ := hδ
    obtain ⟨_, _, _, _, _, _, _, _, _, eg⟩ := rx.elp_inv
    exact Runs.pure h hd rx (by simp [execOp, hop, eg])

theorem sound_extract (h : SRel L n K st γ a w) (hd : dst.ok L n) {X : Operand} {x : AX} {i : Nat} (hop : o.op = .extract X i) (hx : stripX L X = some x)
    {d : Nat} {p : Prop} {δ : Delta} (hδ : astep st d (.extract x i) = some (p, δ)) (hp : p) : Runs P L n K (δ.apply st dst) dst.toOpt o a w := by
  have rx := stripX_rel h hx
  simp only [astep] at hδ
  split at hδ <;> try (cases hδ; done)
  rename_i vs e
  rw [e] at rx
  simp only [Option.some.injEq, Prod.mk.injEq] at hδ
  obtain ⟨rfl, rfl⟩ := hδ
  obtain ⟨us, eu, hl, hr⟩ := rx.tup_inv
  have hi : i < us.length := by omega
  refine Runs.pure h hd (v := us[i]) ?_ ?_
  · rw [List.getD_eq_getElem?_getD, List.getElem?_eq_getElem hp]
    exact hr i hp hi
  · simp [execOp, hop, eu, Instr.extract, List.getElem?_eq_getElem hi]

theorem sound_faddr (h : SRel L n K st γ a w) (hd : dst.ok L n) {t : TypeId} {X : Operand} {x : AX} {f m : Nat} {fields : Array Field} {fl : Field} (hop : o.op = .fieldAddr t X f) (ht : P.underlying t = some (.struct fields))
    (hf : fields[f]? = some fl) (hs : sizeT P fl.type = some m) (hm : 0 < m) (hx : stripX L X = some x)
    {d : Nat} {p : Prop} {δ : Delta} (hδ : astep st d (.faddr fl.offset x) = some (p, δ)) (hp : p) : Runs P L n K (δ.apply st dst) dst.toOpt o a w := by
  have rx := stripX_rel h hx
  have hsz : (sizeOf fl.type).run P w = .ok m w := by
    unfold sizeT at hs
    cases hi : P.info? fl.type with
    | none => simp [hi] at hs
    | some i => simp [hi] at hs; simp [sizeOf, typeInfo, hi, hs]
  have hadd : ∀ (g off : Nat), (⟨g, off, none⟩ : Addr).add fl.offset = ⟨g, off + fl.offset, none⟩ := by
    intro g off; unfold Addr.add; split <;> simp_all
  have hrun : ∀ (g off : Nat), (Instr.fieldAt t (.pointer (some ⟨g, off, none⟩)) f).run P w = .ok (.pointer (some ⟨g, off + fl.offset, none⟩)) w := by
    intro g off
    simp [Instr.fieldAt, run_underlying ht, hf, Instr.sureAddr, fieldPlace, hsz, Nat.pos_iff_ne_zero.1 hm, hadd]
  simp only [astep] at hδ
  split at hδ <;> try (cases hδ; done)
  · rename_i b off e
    rw [e] at rx
    simp only [Option.some.injEq, Prod.mk.injEq] at hδ
    obtain ⟨rfl, rfl⟩ := hδ
    obtain ⟨g, eg, hb⟩ := rx.ptr_inv
    exact Runs.pure h hd (.ptr hb) (by simp [execOp, hop, eg, hrun])
  · rename_i s i j e
    rw [e] at rx
    simp only [Option.some.injEq, Prod.mk.injEq] at hδ
    obtain ⟨rfl, rfl⟩ := hδ
    obtain ⟨sz, xs, g, off, nn, cap, h1, h2, h3, eg⟩ := rx.elp_inv
    refine Runs.pure h hd (.elp s i (j + fl.offset) sz xs g off nn cap h1 h2 h3) ?_
    simp [execOp, hop, eg, hrun, Nat.add_assoc]

end ops
end

end Go.Proofs.YtnhhcfbigjpfeaaDoor
