/-
  How an abstract value reads in memory, what a state of the abstract machine says of the world, and which changes of the world keep it.
-/
import Derived.Test.YtpiafiapjmldgaaVals
import Derived.WalkKit
import Derived.Laws.AppendOwn
namespace Go.Proofs.Ytpiafiapjmldgaa
set_option linter.all false

/-- A value without stamps and pointers, read in memory: no block of its own lies in 'O'. -/
inductive PRel (O : Nat → Prop) (w : World) : V → Value → Prop
  | undef (v : Value) : PRel O w .undef v
  | bool (b : Bool) : PRel O w (.bool b) (.bool b)
  | int (k : IntKind) (n : Int) : PRel O w (.int k n) (.int k n)
  | str (l : List UInt8) (s : ByteArray) (h : s.data.toList = l) : PRel O w (.str l) (.string s)
  | nils : PRel O w .nils (.slice none 0 0)
  | slnil (sz : Nat) : PRel O w (.sl none sz []) (.slice none 0 0)
  | sl (sz : Nat) (xs : List V) (g off cap : Nat) (c : Array Value) (e : TypeId) (fr : Nat × Nat) (us : List Value)
      (hg : w.heap[g]? = some (.cells c e fr)) (hO : ¬ O g) (hcap : xs.length ≤ cap) (hmax : cap ≤ maxLen)
      (hsz : ∀ x ∈ xs, x.cells.length = sz) (hlen : us.length = (flat xs).length) (hus : ∀ k, k < us.length → c[off + k]? = us[k]?) (h1 : ∀ u ∈ us, u.oneCell' = true)
      (hel : ∀ k (h : k < (flat xs).length) (h' : k < us.length), PRel O w ((flat xs)[k]) (us[k])) :
      PRel O w (.sl none sz xs) (.slice (some ⟨g, off, none⟩) xs.length cap)
  | agg (cs : List V) (vs : List Value) (hlen : vs.length = cs.length) (hel : ∀ k (h : k < cs.length) (h' : k < vs.length), PRel O w (cs[k]) (vs[k])) :
      PRel O w (.agg cs) (.agg vs.toArray)

theorem PRel.mono {O O' : Nat → Prop} {w w' : World} (hf : ∀ g o, ¬ O g → w.heap[g]? = some o → ¬ O' g ∧ w'.heap[g]? = some o) {x : V} {v : Value}
    (h : PRel O w x v) : PRel O' w' x v := by
  induction h with
  | undef v => exact .undef v
  | bool b => exact .bool b
  | int k n => exact .int k n
  | str l s h => exact .str l s h
  | nils => exact .nils
  | slnil sz => exact .slnil sz
  | sl sz xs g off cap c e fr us hg hO hcap hmax hsz hlen hus h1c hel ih =>
    obtain ⟨h1, h2⟩ := hf g _ hO hg
    exact .sl sz xs g off cap c e fr us h2 h1 hcap hmax hsz hlen hus h1c ih
  | agg cs vs hlen hel ih => exact .agg cs vs hlen ih

/-- Where the names of the abstract machine lie: variables, stamped storage, and who owns a block. -/
structure Ghost where
  bx : Nat → Option Nat
  sp : Nat → Option Nat
  ow : Nat → Option (Bool × Nat)
  av : Nat → Prop

/-- The blocks that no value without a stamp lies in: those that are owned here, and those that the caller keeps to itself. -/
def Ghost.O (γ : Ghost) (g : Nat) : Prop := γ.ow g ≠ none ∨ γ.av g

abbrev Stats := List (Nat × Option Stat)

/-- A slice over the storage of a stamp that is owned. -/
def OwnSl (γ : Ghost) (w : World) (σ top sz : Nat) (pre : Bool) (xs : List V) (v : Value) : Prop :=
  (v = .slice none 0 0 ∧ xs = []) ∨
  ∃ (g off cap : Nat) (c : Array Value) (e : TypeId) (fr : Nat × Nat) (us : List Value), v = .slice (some ⟨g, off, none⟩) xs.length cap ∧ w.heap[g]? = some (.cells c e fr) ∧ xs.length ≤ cap ∧ cap ≤ maxLen ∧
    (∀ x ∈ xs, x.cells.length = sz) ∧ us.length = (flat xs).length ∧ (∀ k, k < us.length → c[off + k]? = us[k]?) ∧ (∀ u ∈ us, u.oneCell' = true) ∧
    (∀ k (h : k < (flat xs).length) (h' : k < us.length), PRel γ.O w ((flat xs)[k]) (us[k])) ∧
    ((γ.sp σ = some g ∧ off + xs.length * sz ≤ top * sz ∧ (pre = true → off = 0 ∧ fr = (0, 0) ∧ c.size = cap * sz ∧ xs.length ≤ top)) ∨
     (¬ γ.O g ∧ (pre = true → off = 0 ∧ xs.length < top)))

/-- A slice that surely lies at the head of the block of its stamp. -/
def PfSl (γ : Ghost) (w : World) (σ top sz : Nat) (xs : List V) (v : Value) : Prop :=
  (v = .slice none 0 0 ∧ xs = []) ∨ ∃ (g cap : Nat) (c : Array Value) (e : TypeId), v = .slice (some ⟨g, 0, none⟩) xs.length cap ∧ w.heap[g]? = some (.cells c e (0, 0)) ∧ γ.sp σ = some g ∧ c.size = cap * sz ∧ xs.length ≤ top ∧ xs.length ≤ cap ∧ cap ≤ maxLen

/-- The bytes of a buffer that is owned, in a block of type 'e'. -/
def BufSl (γ : Ghost) (w : World) (e σ : Nat) (l : List UInt8) (v : Value) : Prop :=
  (v = .slice none 0 0 ∧ l = []) ∨ ∃ (g cap : Nat) (c : Array Value), v = .slice (some ⟨g, 0, none⟩) l.length cap ∧ γ.sp σ = some g ∧ w.heap[g]? = some (.cells c e (0, 0)) ∧ c.size = cap ∧ l.length ≤ cap ∧ cap ≤ maxLen ∧
    ∀ k (h : k < l.length), c[k]? = some (.int .u8 l[k].toNat)

/-- A block of some type. -/
def OfType (w : World) (g t : Nat) : Prop := ∃ c fr, w.heap[g]? = some (.cells c t fr)

def _root_.Go.Value.isSl (v : Value) : Prop := ∃ a n c, v = .slice a n c

theorem PRel.isSl {O : Nat → Prop} {w : World} {sz : Nat} {xs : List V} {v : Value} (h : PRel O w (.sl none sz xs) v) : v.isSl := by
  cases h <;> exact ⟨_, _, _, rfl⟩

theorem OwnSl.isSl {γ : Ghost} {w : World} {σ top sz : Nat} {pre : Bool} {xs : List V} {v : Value} (h : OwnSl γ w σ top sz pre xs v) : v.isSl := by
  rcases h with ⟨rfl, _⟩ | ⟨_, _, _, _, _, _, _, rfl, _⟩ <;> exact ⟨_, _, _, rfl⟩

inductive VRel (S : Stats) (γ : Ghost) (w : World) : V → Value → Prop
  | base {x : V} {v : Value} (h : PRel γ.O w x v) : VRel S γ w x v
  | own {σ top sz : Nat} {xs : List V} {v : Value} (hs : lookS S σ = some (.own top sz)) (h : OwnSl γ w σ top sz true xs v) : VRel S γ w (.sl (some σ) sz xs) v
  | imm {σ sz : Nat} {xs : List V} {v : Value} (hs : lookS S σ = some .imm) (h : PRel γ.O w (.sl none sz xs) v) : VRel S γ w (.sl (some σ) sz xs) v
  | dead {σ sz : Nat} {xs : List V} {v : Value} (hs : lookS S σ = some .dead) (h : v.isSl) : VRel S γ w (.sl (some σ) sz xs) v
  | vown {σ top sz : Nat} {t : Option Nat} {xs : List V} {v : Value} (hs : lookS S σ = some (.own top sz)) (h : OwnSl γ w σ top sz false xs v) (ht : ∀ u, t = some u → u ≤ top) (hp : t = some top → PfSl γ w σ top sz xs v) : VRel S γ w (.vw σ t sz xs) v
  | vimm {σ sz : Nat} {t : Option Nat} {xs : List V} {v : Value} (hs : lookS S σ = some .imm) (h : PRel γ.O w (.sl none sz xs) v) : VRel S γ w (.vw σ t sz xs) v
  | vdead {σ sz : Nat} {t : Option Nat} {xs : List V} {v : Value} (hs : lookS S σ = some .dead) (h : v.isSl) : VRel S γ w (.vw σ t sz xs) v
  | agg (cs : List V) (vs : List Value) (hlen : vs.length = cs.length) (hel : ∀ k (h : k < cs.length) (h' : k < vs.length), VRel S γ w (cs[k]) (vs[k])) :
      VRel S γ w (.agg cs) (.agg vs.toArray)
  | tup (cs : List V) (vs : List Value) (hlen : vs.length = cs.length) (hel : ∀ k (h : k < cs.length) (h' : k < vs.length), VRel S γ w (cs[k]) (vs[k])) :
      VRel S γ w (.tup cs) (.tuple vs.toArray)
  | ptr {d off g : Nat} (h : γ.bx d = some g) : VRel S γ w (.ptr d off) (.pointer (some ⟨g, off, none⟩))
  | nilp : VRel S γ w .nilp (.pointer none)
  | elp (s : V) (i j : Nat) (sz : Nat) (xs : List V) (g off n cap : Nat) (hs : s = .sl none sz xs ∨ (∃ σ, s = .sl (some σ) sz xs) ∨ (∃ σ t, s = .vw σ t sz xs))
      (h : VRel S γ w s (.slice (some ⟨g, off, none⟩) n cap)) (hi : i < xs.length) : VRel S γ w (.elp s i j) (.pointer (some ⟨g, off + i * sz + j, none⟩))
  | fn (f : Nat) (cs : List V) (vs : List Value) (hlen : vs.length = cs.length) (hel : ∀ k (h : k < cs.length) (h' : k < vs.length), VRel S γ w (cs[k]) (vs[k])) :
      VRel S γ w (.fn f cs) (.func (.func f) #[] vs.toArray)
  | nilb {d t g : Nat} (h : γ.bx d = some g) (ht : OfType w g t) : VRel S γ w (.nilb d t) (.pointer none)
  | bb {e σ : Nat} {l : List UInt8} {v : Value} {s : Stat} (hi : v.isSl) (hs : lookS S σ = some s) (h : ∀ t z, s = .own t z → l.length ≤ t ∧ (t = l.length ∧ z = 1 → BufSl γ w e σ l v)) : VRel S γ w (.bb e σ l) v

/-- A change of the world after which every value reads as before. -/
structure Evo (S : Stats) (γ : Ghost) (w : World) (S' : Stats) (γ' : Ghost) (w' : World) : Prop where
  keep : ∀ g o, ¬ γ.O g → w.heap[g]? = some o → ¬ γ'.O g ∧ w'.heap[g]? = some o
  bx : ∀ d g, γ.bx d = some g → γ'.bx d = some g
  typ : ∀ g t, OfType w g t → OfType w' g t
  dead : ∀ σ, lookS S σ = some .dead → lookS S' σ = some .dead
  imm : ∀ σ, lookS S σ = some .imm → lookS S' σ = some .imm ∨ lookS S' σ = some .dead
  own : ∀ σ top sz, lookS S σ = some (.own top sz) → lookS S' σ = some .dead ∨
    (lookS S' σ = some .imm ∧ ∀ g o, γ.sp σ = some g → w.heap[g]? = some o → ¬ γ'.O g ∧ w'.heap[g]? = some o) ∨
    (∃ top', lookS S' σ = some (.own top' sz) ∧ top ≤ top' ∧ ∀ g c e fr, γ.sp σ = some g → w.heap[g]? = some (.cells c e fr) →
      (γ'.sp σ = some g ∧ ∃ c', w'.heap[g]? = some (.cells c' e fr) ∧ c'.size = c.size ∧ ∀ k, k < top * sz → c'[k]? = c[k]?) ∨
      (top < top' ∧ ¬ γ'.O g ∧ w'.heap[g]? = some (.cells c e fr)))

theorem length_flat {sz : Nat} : ∀ {xs : List V}, (∀ x ∈ xs, x.cells.length = sz) → (flat xs).length = xs.length * sz
  | [], _ => by simp [flat]
  | x :: r, h => by
    have := length_flat (xs := r) fun y hy => h y (List.mem_cons_of_mem _ hy)
    unfold flat at this ⊢
    rw [List.flatMap_cons, List.length_append, this, h x List.mem_cons_self, List.length_cons, Nat.add_mul]
    omega

theorem OwnSl.evo {S : Stats} {γ : Ghost} {w : World} {S' : Stats} {γ' : Ghost} {w' : World} (ev : Evo S γ w S' γ' w') {σ top sz : Nat} {pre : Bool} {xs : List V} {v : Value}
    (hs : lookS S σ = some (.own top sz)) (h : OwnSl γ w σ top sz pre xs v) :
    lookS S' σ = some .dead ∨ (lookS S' σ = some .imm ∧ PRel γ'.O w' (.sl none sz xs) v) ∨ ∃ top', lookS S' σ = some (.own top' sz) ∧ OwnSl γ' w' σ top' sz pre xs v := by
  rcases h with ⟨rfl, rfl⟩ | ⟨g, off, cap, c, e, fr, us, rfl, hg, hcap, hmax, hsz, hlen, hus, h1c, hel, hown⟩
  · rcases ev.own σ top sz hs with h | ⟨h, _⟩ | ⟨top', h, _⟩
    · exact .inl h
    · exact .inr (.inl ⟨h, .slnil sz⟩)
    · exact .inr (.inr ⟨top', h, .inl ⟨rfl, rfl⟩⟩)
  · have hel' : ∀ k (h : k < (flat xs).length) (h' : k < us.length), PRel γ'.O w' ((flat xs)[k]) (us[k]) := fun k h h' => (hel k h h').mono ev.keep
    have hl := length_flat hsz
    rcases ev.own σ top sz hs with h | ⟨h, h2⟩ | ⟨top', h, hle, h2⟩
    · exact .inl h
    · refine .inr (.inl ⟨h, ?_⟩)
      rcases hown with ⟨hsp, _, _⟩ | ⟨hO, _⟩
      · obtain ⟨h3, h4⟩ := h2 g _ hsp hg
        exact .sl sz xs g off cap c e fr us h4 h3 hcap hmax hsz hlen hus h1c hel'
      · obtain ⟨h3, h4⟩ := ev.keep g _ hO hg
        exact .sl sz xs g off cap c e fr us h4 h3 hcap hmax hsz hlen hus h1c hel'
    · refine .inr (.inr ⟨top', h, .inr ?_⟩)
      rcases hown with ⟨hsp, hex, hpre⟩ | ⟨hO, hpre⟩
      · rcases h2 g c e fr hsp hg with ⟨h3, c', h4, h5, h6⟩ | ⟨h3, h4, h5⟩
        · refine ⟨g, off, cap, c', e, fr, us, rfl, h4, hcap, hmax, hsz, hlen, ?_, h1c, hel', .inl ⟨h3, ?_, ?_⟩⟩
          · intro k hk
            rw [h6 _ (by omega)]
            exact hus k hk
          · exact Nat.le_trans hex (Nat.mul_le_mul_right _ hle)
          · intro hp; obtain ⟨p1, p2, p3, p4⟩ := hpre hp; exact ⟨p1, p2, by omega, by omega⟩
        · refine ⟨g, off, cap, c, e, fr, us, rfl, h5, hcap, hmax, hsz, hlen, hus, h1c, hel', .inr ⟨h4, ?_⟩⟩
          intro hp
          obtain ⟨p1, p2, p3, p4⟩ := hpre hp
          exact ⟨p1, by omega⟩
      · obtain ⟨h3, h4⟩ := ev.keep g _ hO hg
        refine ⟨g, off, cap, c, e, fr, us, rfl, h4, hcap, hmax, hsz, hlen, hus, h1c, hel', .inr ⟨h3, ?_⟩⟩
        intro hp
        obtain ⟨p1, p2⟩ := hpre hp
        exact ⟨p1, by omega⟩

theorem PfSl.evo {S : Stats} {γ : Ghost} {w : World} {S' : Stats} {γ' : Ghost} {w' : World} (ev : Evo S γ w S' γ' w') {σ top sz : Nat} {xs : List V} {v : Value}
    (hs : lookS S σ = some (.own top sz)) (hs' : lookS S' σ = some (.own top sz)) (h : PfSl γ w σ top sz xs v) : PfSl γ' w' σ top sz xs v := by
  rcases h with h | ⟨g, cap, c, e, rfl, h1, h2, h3, h4, h5, h6⟩
  · exact .inl h
  · rcases ev.own σ top sz hs with q | ⟨q, _⟩ | ⟨top', q, hle, q2⟩
    · rw [hs'] at q; cases q
    · rw [hs'] at q; cases q
    · rw [hs'] at q
      cases q
      rcases q2 g c e (0, 0) h2 h1 with ⟨r1, c', r2, r3, _⟩ | ⟨r1, _⟩
      · exact .inr ⟨g, cap, c', e, rfl, r2, r1, by rw [r3]; exact h3, h4, h5, h6⟩
      · omega

theorem own_le {S : Stats} {γ : Ghost} {w : World} {S' : Stats} {γ' : Ghost} {w' : World} (ev : Evo S γ w S' γ' w') {σ top sz t' s' : Nat} (hs : lookS S σ = some (.own top sz)) (hs' : lookS S' σ = some (.own t' s')) : top ≤ t' ∧ s' = sz := by
  rcases ev.own σ top sz hs with q | ⟨q, _⟩ | ⟨top', q, hle, _⟩
  · rw [hs'] at q; cases q
  · rw [hs'] at q; cases q
  · rw [hs'] at q; cases q; exact ⟨hle, rfl⟩

theorem VRel.evo {S : Stats} {γ : Ghost} {w : World} {S' : Stats} {γ' : Ghost} {w' : World} (ev : Evo S γ w S' γ' w') {x : V} {v : Value}
    (h : VRel S γ w x v) : VRel S' γ' w' x v := by
  induction h with
  | base h => exact .base (h.mono ev.keep)
  | own hs h =>
    have hi := h.isSl
    rcases h.evo ev hs with h | ⟨h, h2⟩ | ⟨t, h, h2⟩
    · exact .dead h hi
    · exact .imm h h2
    · exact .own h h2
  | imm hs h =>
    rcases ev.imm _ hs with h2 | h2
    · exact .imm h2 (h.mono ev.keep)
    · exact .dead h2 h.isSl
  | dead hs h => exact .dead (ev.dead _ hs) h
  | @vown σ top sz t xs v hs h ht hp =>
    have hi := h.isSl
    rcases h.evo ev hs with h' | ⟨h', h2⟩ | ⟨top', h', h2⟩
    · exact .vdead h' hi
    · exact .vimm h' h2
    · have h3 := (own_le ev hs h').1
      refine .vown h' h2 (fun u q => Nat.le_trans (ht u q) h3) (fun q => ?_)
      obtain rfl : top' = top := Nat.le_antisymm (ht _ q) h3
      exact (hp q).evo ev hs h'
  | vimm hs h =>
    rcases ev.imm _ hs with h2 | h2
    · exact .vimm h2 (h.mono ev.keep)
    · exact .vdead h2 h.isSl
  | vdead hs h => exact .vdead (ev.dead _ hs) h
  | agg cs vs hlen hel ih => exact .agg cs vs hlen ih
  | tup cs vs hlen hel ih => exact .tup cs vs hlen ih
  | ptr h => exact .ptr (ev.bx _ _ h)
  | nilp => exact .nilp
  | elp s i j sz xs g off n cap hs h hi ih => exact .elp s i j sz xs g off n cap hs ih hi
  | fn f cs vs hlen hel ih => exact .fn f cs vs hlen ih
  | nilb h ht => exact .nilb (ev.bx _ _ h) (ev.typ _ _ ht)
  | @bb e σ l v s hi hs h =>
    cases s with
    | dead => exact .bb hi (ev.dead _ hs) (fun t z q => by cases q)
    | imm =>
      rcases ev.imm _ hs with q | q
      · exact .bb hi q (fun t z q => by cases q)
      · exact .bb hi q (fun t z q => by cases q)
    | own t z =>
      obtain ⟨h1, h2⟩ := h t z rfl
      rcases ev.own _ _ _ hs with q | ⟨q, _⟩ | ⟨t', q, q1, q2⟩
      · exact .bb hi q (fun t z q => by cases q)
      · exact .bb hi q (fun t z q => by cases q)
      · refine .bb hi q (fun t2 z2 q3 => ?_)
        cases q3
        refine ⟨by omega, fun ⟨q4, q5⟩ => ?_⟩
        obtain rfl : t = t' := by omega
        rcases h2 ⟨q4, q5⟩ with ⟨r1, r2⟩ | ⟨g, cap, c, r1, r2, r3, r4, r5, r6, r7⟩
        · exact .inl ⟨r1, r2⟩
        · rcases q2 g c e (0, 0) r2 r3 with ⟨u1, c', u2, u3, u4⟩ | ⟨u1, _⟩
          · exact .inr ⟨g, cap, c', r1, u1, u2, by omega, r5, r6, fun k hk => by rw [u4 k (by subst q5; omega)]; exact r7 k hk⟩
          · omega

end Go.Proofs.Ytpiafiapjmldgaa
