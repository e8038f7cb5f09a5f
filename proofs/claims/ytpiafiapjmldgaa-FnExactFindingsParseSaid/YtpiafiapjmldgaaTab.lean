/-
  What is known of the tables that lie in memory before a call: they lie in blocks that nobody may change.
-/
import Derived.Test.YtpiafiapjmldgaaWeak
import Derived.Lib.LaidTab
import Derived.Lib.ItoaNum
namespace Go.Proofs.Ytpiafiapjmldgaa
set_option linter.all false

/-- The block of a variable that holds some number. -/
def TbNum (g : Nat) (av : Nat → Prop) (w : World) : Prop := av g ∧ ∃ m, w.cell? ⟨g, 0, none⟩ = some (.int .i64 m)

/-- The block of a variable that holds a table. -/
def TbTab (g : Nat) (k : IntKind) (zs : List Int) (av : Nat → Prop) (w : World) : Prop := av g ∧ ∃ t fr, w.heap[g]? = some (.cells (zs.map fun z => Value.int k z).toArray t fr)

theorem TbNum.mono {g : Nat} {av av' : Nat → Prop} {w w' : World} (h : TbNum g av w) (ha : ∀ g, av g → av' g) (hw : ∀ g, av g → w'.heap[g]? = w.heap[g]?) : TbNum g av' w' := by
  obtain ⟨h1, m, h2⟩ := h
  refine ⟨ha g h1, m, ?_⟩
  simp only [World.cell?] at h2 ⊢
  rw [hw g h1]; exact h2

theorem TbTab.mono {g : Nat} {k : IntKind} {zs : List Int} {av av' : Nat → Prop} {w w' : World} (h : TbTab g k zs av w) (ha : ∀ g, av g → av' g) (hw : ∀ g, av g → w'.heap[g]? = w.heap[g]?) : TbTab g k zs av' w' := by
  obtain ⟨h1, t, fr, h2⟩ := h
  exact ⟨ha g h1, t, fr, by rw [hw g h1]; exact h2⟩

/-- What the library's variables hold. -/
structure Tb (av : Nat → Prop) (w : World) : Prop where
  maxLen : TbNum 0 av w

theorem Tb.mono {av av' : Nat → Prop} {w w' : World} (h : Tb av w) (ha : ∀ g, av g → av' g) (hw : ∀ g, av g → w'.heap[g]? = w.heap[g]?) : Tb av' w' where
  maxLen := h.maxLen.mono ha hw

/-- The blocks that lie there and that nobody owns. -/
def Ghost.un (γ : Ghost) (w : World) (g : Nat) : Prop := g < w.heap.size ∧ γ.ow g = none

/-- A frame in which the tables lie where nobody may change them. -/
structure Ctx.ok (K : Ctx) : Prop where
  tb : Tb (fun g => g < K.w0.heap.size ∧ ¬ K.init g) K.w0
  av : ∀ g, K.av g → g < K.w0.heap.size ∧ ¬ K.init g

end Go.Proofs.Ytpiafiapjmldgaa
