/-
  The library's functions, by the contracts of the kit's shelf.
-/
import Derived.Test.YtpiafiapjmldgaaSet
import Derived.Test.YtpiafiapjmldgaaShelf
namespace Go.Proofs.Ytpiafiapjmldgaa
set_option linter.all false

/-- A function that makes no memory. -/
theorem Fn.of_read {P : Program} {f : FuncId} {args : List V} {R : V} (hargs : argStat args [] = []) (hR : R.stat = [])
    (h : ∀ (w : World) (γ : Ghost) (vs : List Value), Tb (γ.un w) w → CellsRel [] γ w args vs → Calls P f vs.toArray w fun e w' => ∃ v, e = .returned v ∧ w'.heap = w.heap ∧ w'.os = w.os ∧ w'.tape = w.tape ∧ w'.output = w.output ∧ VRel [] γ w R v) : Fn P f args [] R [] := by
  intro w γ vs hT hH hc
  rw [hargs] at hH hc
  refine (h w γ vs hT hc).mono fun e w' hex => ?_
  obtain ⟨v, rfl, h1, h2, h3, h4, h5⟩ := hex
  have hs : resStat R [] = [] := by unfold resStat; rw [hR]; rfl
  refine ⟨v, γ, rfl, ?_, ?_⟩
  · rw [hs]
    refine ⟨fun d cs hl => ?_, ⟨fun d g hg => hH.bxd.1 d g hg, hH.bxd.2⟩, fun σ top sz q => ?_, ?_, ?_, ?_⟩
    · simp [boxesOf, boxesFrom, lookB] at hl
    · simp [lookS] at q
    · rw [h1]; exact hH.ow
    · rw [h1]; exact hH.av
    · exact ⟨h2, h3, h4, by rw [h1]; exact Nat.le_refl _, fun g _ _ => by rw [h1]; rfl⟩
  · rw [hs]; exact h5.world h1

theorem arg1 {S : Stats} {γ : Ghost} {w : World} {x : V} {vs : List Value} (h : CellsRel S γ w [x] vs) : ∃ v, vs = [v] ∧ VRel S γ w x v := by
  obtain ⟨hl, he⟩ := h
  match vs, hl with
  | [v], _ => exact ⟨v, rfl, he 0 (by simp) (by simp)⟩

theorem arg2 {S : Stats} {γ : Ghost} {w : World} {x y : V} {vs : List Value} (h : CellsRel S γ w [x, y] vs) : ∃ v u, vs = [v, u] ∧ VRel S γ w x v ∧ VRel S γ w y u := by
  obtain ⟨hl, he⟩ := h
  match vs, hl with
  | [v, u], _ => exact ⟨v, u, rfl, he 0 (by simp) (by simp), he 1 (by simp) (by simp)⟩

theorem Cut_ok (s sep : List UInt8) (hs : s.length < 4294967281) : Fn Try.prog fn_strings_Cut [.str s, .str sep] [] (.tup [.str (Lib.cut s sep).1, .str (Lib.cut s sep).2.1, .bool (Lib.cut s sep).2.2]) [] := by
  refine Fn.of_read rfl rfl fun w γ vs hT hc => ?_
  obtain ⟨v, u, rfl, hv, hu⟩ := arg2 hc
  obtain ⟨s', rfl, rfl⟩ := hv.str_inv
  obtain ⟨sep', rfl, rfl⟩ := hu.str_inv
  obtain ⟨_, m, hm⟩ := hT.maxLen
  refine (Try.strings_Cut s' sep' m w (by simpa using hs) hm).mono fun e w' hex => ?_
  obtain ⟨rfl, n, rfl⟩ := hex
  refine ⟨_, rfl, rfl, rfl, rfl, rfl, .tup _ [_, _, _] rfl fun k h1 h2 => ?_⟩
  match k with
  | 0 => exact .base (.str _ _ rfl)
  | 1 => exact .base (.str _ _ rfl)
  | 2 => exact .base (.bool _)

end Go.Proofs.Ytpiafiapjmldgaa
