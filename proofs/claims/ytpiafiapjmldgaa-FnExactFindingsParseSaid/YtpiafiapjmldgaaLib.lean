/-
  The library's functions, by the contracts of the kit's shelf.
-/
import Derived.Test.YtpiafiapjmldgaaSet
import Derived.Test.YtpiafiapjmldgaaShelf
import Derived.Below
namespace Go.Proofs.Ytpiafiapjmldgaa
open Go.RowKit
set_option linter.all false

/-- A function that changes no memory that was there, and hands back none. -/
theorem Fn.of_below {P : Program} {f : FuncId} {args : List V} {R : V} (hargs : argStat args [] = []) (hR : R.stat = [])
    (h : ∀ (w : World) (γ : Ghost) (vs : List Value), Tb (γ.un w) w → CellsRel [] γ w args vs → Calls P f vs.toArray w fun e w' => ∃ v, e = .returned v ∧ Below w.heap.size w w' ∧ VRel [] γ w' R v) : Fn P f args [] R [] := by
  intro w γ vs hT hH hc
  rw [hargs] at hH hc
  refine (h w γ vs hT hc).mono fun e w' hex => ?_
  obtain ⟨v, rfl, hb, h5⟩ := hex
  have hs : resStat R [] = [] := by unfold resStat; rw [hR]; rfl
  refine ⟨v, γ, rfl, ?_, ?_⟩
  · rw [hs]
    refine ⟨fun d cs hl => ?_, ⟨fun d g hg => hH.bxd.1 d g hg, hH.bxd.2⟩, fun σ top sz q => ?_, fun g x hg => ?_, ⟨hH.av.1, fun g hg => ?_⟩, ?_⟩
    · simp [boxesOf, boxesFrom, lookB] at hl
    · simp [lookS] at q
    · exact ⟨Nat.lt_of_lt_of_le (hH.ow g x hg).1 hb.size, (hH.ow g x hg).2⟩
    · exact ⟨Nat.lt_of_lt_of_le (hH.av.2 g hg).1 hb.size, (hH.av.2 g hg).2⟩
    · exact ⟨hb.os, hb.tape, hb.output, hb.size, fun g hg _ => hb.block g hg, fun g t ⟨c, fr, q⟩ => ⟨c, fr, by rw [hb.block g (Array.getElem?_eq_some_iff.1 q).1]; exact q⟩⟩
  · rw [hs]; exact h5

theorem Below.of_heap {w w' : World} (h1 : w'.heap = w.heap) (h2 : w'.os = w.os) (h3 : w'.tape = w.tape) (h4 : w'.output = w.output) : Below w.heap.size w w' :=
  ⟨h2, h3, h4, by rw [h1]; exact Nat.le_refl _, fun g _ => by rw [h1]⟩

theorem arg1 {S : Stats} {γ : Ghost} {w : World} {x : V} {vs : List Value} (h : CellsRel S γ w [x] vs) : ∃ v, vs = [v] ∧ VRel S γ w x v := by
  obtain ⟨hl, he⟩ := h
  match vs, hl with
  | [v], _ => exact ⟨v, rfl, he 0 (by simp) (by simp)⟩

theorem arg2 {S : Stats} {γ : Ghost} {w : World} {x y : V} {vs : List Value} (h : CellsRel S γ w [x, y] vs) : ∃ v u, vs = [v, u] ∧ VRel S γ w x v ∧ VRel S γ w y u := by
  obtain ⟨hl, he⟩ := h
  match vs, hl with
  | [v, u], _ => exact ⟨v, u, rfl, he 0 (by simp) (by simp), he 1 (by simp) (by simp)⟩

theorem Cut_ok (s sep : List UInt8) (hs : s.length < 4294967281) : Fn Try.prog fn_strings_Cut [.str s, .str sep] [] (.tup [.str (Lib.cut s sep).1, .str (Lib.cut s sep).2.1, .bool (Lib.cut s sep).2.2]) [] := by
  refine Fn.of_below rfl rfl fun w γ vs hT hc => ?_
  obtain ⟨v, u, rfl, hv, hu⟩ := arg2 hc
  obtain ⟨s', rfl, rfl⟩ := hv.str_inv
  obtain ⟨sep', rfl, rfl⟩ := hu.str_inv
  obtain ⟨_, m, hm⟩ := hT.maxLen
  refine (Try.strings_Cut s' sep' m w (by simpa using hs) hm).mono fun e w' hex => ?_
  obtain ⟨rfl, n, rfl⟩ := hex
  refine ⟨_, rfl, Below.of_heap rfl rfl rfl rfl, .tup _ [_, _, _] rfl fun k h1 h2 => ?_⟩
  match k with
  | 0 => exact .base (.str _ _ rfl)
  | 1 => exact .base (.str _ _ rfl)
  | 2 => exact .base (.bool _)


end Go.Proofs.Ytpiafiapjmldgaa
