/-
  From a contract over abstract values to what a row asks: the start, and arguments that are read.
  The tables that the rows of this seat list.
-/
import Derived.Test.YtnhhcfbigjpfeaaGreatDoorQ18
import Derived.ProofKit
import Derived.HandedShaped
import Derived.Carry
import Derived.ChangeMaps5
import Derived.Test.YtnhhcfbigjpfeaaGreatDoorRows
import Derived.OpenShut
import Derived.Deep.DeepHandedRow
import Derived.Lib.LaidTab
import Derived.LaidSub
namespace Go.Proofs.YtnhhcfbigjpfeaaGreatDoor
set_option linter.all false

section
open Go.ChangeShapes Go.WideShapes Go.ChangeAt Go.RowKit

/-- At the start nobody owns anything. -/
def γ0 : Ghost := ⟨fun _ => none, fun _ => none, fun _ => none, fun _ => False⟩

theorem hinv0 (w : World) : HInv (.ofGhost w γ0) (boxesOf []) [] γ0 w :=
  ⟨fun d cs hl => by simp [boxesOf, boxesFrom, lookB] at hl, ⟨fun d g hg => by simp [γ0] at hg, fun d g hg => by simp [Ctx.ofGhost, γ0] at hg⟩,
    fun σ top sz hs => by simp [lookS] at hs, fun g x hg => by simp [γ0] at hg, ⟨rfl, fun g hg => hg.elim⟩, ⟨rfl, rfl, rfl, Nat.le_refl _, fun _ _ _ => rfl, fun _ _ h => h⟩⟩

/-- A contract that asks for no variables, at the start. -/
theorem Fn.calls {P : Program} {f : FuncId} {args : List V} {R : V} (hf : Fn P f args [] R []) (hargs : argStat args [] = []) (w : World) (vs : List Value) (hT : Tb (γ0.un w) w) (hc : CellsRel [] γ0 w args vs) :
    Calls P f vs.toArray w fun e w' => ∃ v γ', e = .returned v ∧ VRel (resStat R []) γ' w' R v ∧ Below w.heap.size w w' := by
  have h1 : HInv (.ofGhost w γ0) (boxesOf []) (argStat args []) γ0 w := by rw [hargs]; exact hinv0 w
  refine (hf w γ0 vs hT h1 (by rw [hargs]; exact hc)).mono fun e w' hex => ?_
  obtain ⟨v, γ', rfl, hH, hv⟩ := hex
  exact ⟨v, γ', rfl, hv, hH.frame.os, hH.frame.tape, hH.frame.output, hH.frame.size, fun g hg => hH.frame.same g hg (by simp [Ctx.ofGhost, γ0])⟩

theorem Fn.calls_true {P : Program} {f : FuncId} {args : List V} (hf : Fn P f args [] (.bool true) []) (hargs : argStat args [] = []) (w : World) (vs : List Value) (hT : Tb (γ0.un w) w) (hc : CellsRel [] γ0 w args vs) :
    Calls P f vs.toArray w fun e w' => e = .returned (.bool true) ∧ Below w.heap.size w w' := by
  refine (hf.calls hargs w vs hT hc).mono fun e w' hex => ?_
  obtain ⟨v, γ', rfl, hv, hb⟩ := hex
  refine ⟨?_, hb⟩
  cases hv with
  | base h => cases h with
    | bool b => rfl

theorem rel_one {w : World} {x : V} {v : Value} (h : VRel [] γ0 w x v) : CellsRel [] γ0 w [x] [v] :=
  ⟨rfl, fun k h1 h2 => by match k with | 0 => exact h⟩

theorem flat_bytes : ∀ l : List UInt8, flat (l.map byteV) = l.map byteV
  | [] => rfl
  | z :: r => by
    have := flat_bytes r
    unfold flat at this ⊢
    rw [List.map_cons, List.flatMap_cons, this]
    rfl

/-- A slice of bytes that is read. -/
theorem rel_bytes {P : Program} {W : World} {base t e : Nat} {v : Value} (ht : P.underlying t = some (.slice e)) (hval : Value.okWide P W .any base t v)
    (h : v = .slice none 0 0 ∨ ∃ (a : Addr) (len cap : Nat) (zs : List Int), v = .slice (some a) len cap ∧ len ≤ cap ∧ cap ≤ maxLen ∧ len ≤ zs.length ∧
      (∀ i, i < zs.length → W.cell? (a.add i) = some (.int .u8 (zs.getD i 0))) ∧ ∀ n ∈ zs, (Lit.int .u8 n).wf = true) :
    ∃ l, VRel [] γ0 W (bsl l) v := by
  rcases h with rfl | ⟨a, len, cap, zs, rfl, hl, hm, hz, hcell, hwz⟩
  · exact ⟨[], .base (.slnil 1)⟩
  · have hh : W.has P .any base a e cap := by
      simp only [Value.okWide, ht, Cell.okWide, Cell.ok] at hval
      exact hval.2.2
    obtain ⟨_, hsp, row, cells, hsh, _⟩ := hh
    obtain ⟨b, off, spot⟩ := a
    simp only at hsp
    subst hsp
    have hblk : ∃ c e fr, W.heap[b]? = some (.cells c e fr) := by
      simp only [World.shape?] at hsh
      cases hb : W.heap[b]? with
      | none => rw [hb] at hsh; simp at hsh
      | some o =>
        rw [hb] at hsh
        cases o with
        | cells c e fr => exact ⟨c, e, fr, rfl⟩
        | _ => simp at hsh
    obtain ⟨c, e', fr, hg⟩ := hblk
    have hr : ∀ n ∈ zs, 0 ≤ n ∧ n ≤ 255 := fun n hn => by
      have := hwz n hn
      simpa [Lit.wf, IntKind.min, IntKind.max, IntKind.signed, IntKind.bits] using this
    obtain ⟨l, hll, hbv⟩ : ∃ l : List UInt8, l.length = len ∧ ∀ i (h : i < l.length), W.cell? ⟨b, off + i, none⟩ = some (.int .u8 (l[i].toNat : Int)) := by
      refine ⟨(zs.take len).map (fun z => UInt8.ofNat z.toNat), by simp; omega, fun i hi => ?_⟩
      have hi2 : i < zs.length := by simp at hi; omega
      have h1 := hcell i hi2
      have e1 : zs.getD i 0 = zs[i] := by rw [List.getD_eq_getElem?_getD, List.getElem?_eq_getElem hi2]; rfl
      obtain ⟨h2, h3⟩ := hr _ (List.getElem_mem hi2)
      rw [e1] at h1
      have e2 : ((zs.take len).map (fun z => UInt8.ofNat z.toNat))[i] = UInt8.ofNat zs[i].toNat := by simp
      rw [e2, UInt8.toNat_ofNat_of_lt' (by simp [UInt8.size]; omega), Int.toNat_of_nonneg h2]
      have e3 : Addr.add ⟨b, off, none⟩ i = ⟨b, off + i, none⟩ := by unfold Addr.add; split <;> simp_all
      rw [← e3]; exact h1
    have hfl : flat (l.map byteV) = l.map byteV := flat_bytes l
    have key := PRel.sl (O := γ0.O) (w := W) 1 (l.map byteV) b off cap c e' fr (l.map fun z => Value.int .u8 (z.toNat : Int)) hg (by simp [Ghost.O, γ0]) (by simpa [hll] using hl) hm
      (fun x hx => by
        obtain ⟨u, _, rfl⟩ := List.mem_map.1 hx
        rfl) (by rw [hfl]; simp) (fun k hk => ?_) (fun u hu => ?_) (fun k h1 h2 => ?_)
    · have e2 : (l.map byteV).length = len := by simpa using hll
      rw [e2] at key
      exact ⟨l, .base key⟩
    · have hk2 : k < l.length := by simpa using hk
      have h1 := hbv k hk2
      simp only [World.cell?, hg] at h1
      rw [List.getElem?_map, List.getElem?_eq_getElem hk2]
      simpa using h1
    · obtain ⟨z, _, rfl⟩ := List.mem_map.1 hu
      rfl
    · simp only [hfl, List.getElem_map, byteV]
      exact .int _ _

/-- An argument of bytes. -/
theorem open_bytes {H : Type} {enc : TypeId × Value → H} {P : Program} {W : World} {base t e : Nat} {v : Value} {d : DataW H} {ps : List MemPlace} (ht : P.underlying t = some (.slice e)) (he : P.underlying e = some (.int .u8)) (hc : P.cellsOf e = 1)
    (hval : Value.okWide P W .any base t v) (h0 : DataW.Trod enc P W 0 (fun _ => true) true t v d ps) : ∃ l, VRel [] γ0 W (bsl l) v := by
  obtain ⟨fuel, hf⟩ := h0
  refine rel_bytes ht hval ?_
  obtain ⟨a0, len, cap, rfl⟩ := okWide_slice ht hval
  rcases open_ints ht he hc hf with ⟨hcs, hx⟩ | ⟨a, len', cap', zs, hcs, _, hl, hm, hz, hx, hcell, hwz⟩
  · simp [Value.cells] at hcs
    obtain ⟨rfl, rfl, rfl⟩ := hcs
    exact .inl rfl
  · simp [Value.cells] at hcs
    obtain ⟨rfl, rfl, rfl⟩ := hcs
    simp only [if_true] at hz
    exact .inr ⟨a, len, cap, zs, rfl, hl, hm, by omega, hcell, hwz⟩
end

section
open Go.ChangeShapes Go.WideShapes Go.ChangeAt Go.RowKit

theorem own : ownKnob Tryz.prog.godebug = none := by kernel_rfl
theorem laidOut : laidOutB Tryz.prog = true := by kernel_rfl
theorem gTab : Tryz.prog.globalNamed "internal/strconv.uint64pow10" = some 0 := by kernel_rfl
theorem gTabType : (Tryz.prog.globals[0]?).map (·.type) = some 151 := by kernel_rfl

theorem pow10_of {W : World} (h : laidMetH Tryz.prog [("math/bits.deBruijn32tab", Rows.laid_math_bits_deBruijn32tab), ("math/bits.deBruijn64tab", Rows.laid_math_bits_deBruijn64tab), ("internal/strconv.uint64pow10", Rows.laid_internal_strconv_uint64pow10)] W) :
    Lib.TabIs Tryz.prog W "internal/strconv.uint64pow10" .u64 Lib.pow10Tab := by
  have h1 : laidMet Tryz.prog [("math/bits.deBruijn32tab", Rows.laid_math_bits_deBruijn32tab), ("math/bits.deBruijn64tab", Rows.laid_math_bits_deBruijn64tab), ("internal/strconv.uint64pow10", Rows.laid_internal_strconv_uint64pow10)] W := h
  have h2 := _root_.Go.laidMet.filter (fun x => x.1 == "internal/strconv.uint64pow10") h1
  exact Lib.tabIs_of_head (rest := []) gTab gTabType Tryz.underlying151 Tryz.underlying118 (by kernel_rfl) (by kernel_rfl) h2

theorem tabsD {W : World} (h : Lib.TabIs Tryz.prog W "internal/strconv.uint64pow10" .u64 Lib.pow10Tab) (hsh : W.ShapedOpen Tryz.prog) : Tb (γ0.un W) W where
  pow10 := by
    simp only [Lib.TabIs, World.var?, gTab, Option.bind_some] at h
    cases hb : W.heap[0]? with
    | none => rw [hb] at h; cases h
    | some o =>
      rw [hb] at h
      cases o with
      | cells c e fr =>
        obtain rfl := Option.some.inj h
        refine ⟨⟨?_, rfl⟩, e, fr, hb⟩
        rcases Nat.lt_or_ge 0 W.heap.size with h | h
        · exact h
        · rw [Array.getElem?_eq_none h] at hb; cases hb
      | _ => cases h

/-- The cells of a table that a row lists. -/
def cellsOfTab : DataW Unit → Array Value
  | .agg l => (l.map fun d => match d with
    | .lit (.int k n) => Value.int k n
    | _ => .bool false).toArray
  | _ => #[]

def layTab (h : Array Obj) (g : Nat) (d : DataW Unit) : Array Obj := h.modify g fun o => match o with
  | .cells _ t fr => .cells (cellsOfTab d) t fr
  | o => o

/-- A world that holds the tables. -/
noncomputable def laidWorld (os : Os) : World :=
  { World.holding Tryz.prog os ⟨#[], #[], []⟩ with heap := layTab (layTab (layTab (World.holding Tryz.prog os ⟨#[], #[], []⟩).heap 0 Rows.laid_internal_strconv_uint64pow10) 1 Rows.laid_math_bits_deBruijn32tab) 2 Rows.laid_math_bits_deBruijn64tab }
end

end Go.Proofs.YtnhhcfbigjpfeaaGreatDoor
