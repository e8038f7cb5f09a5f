/-
  Parts that are written by the program.
-/
import Derived.Test.YtldoekmblpghmaaGreatQ29
namespace Go.Proofs.YtldoekmblpghmaaGreat
set_option linter.all false

section
set_option maxRecDepth 200000
set_option maxHeartbeats 8000000
attribute [-simp] List.getD_eq_getElem?_getD

theorem impl_DataPut_ok (d : Part) : Fn Tryz.prog fn_impl_DataPut [d.v] [] (optV zChunk.v Chunk.v (putPart d)) [] := by
  refine Fn.of_go ln_impl_DataPut rfl ?_
  have fd := dataOk_ok d
  simp only [Part.v, Part.cells] at fd
  simp [ac_impl_DataPut, Part.v, Part.cells]
  refine goCall_eq fd (by simp) ?_
  simp
  cases h : d.ok with
  | false =>
    simp
    exact Ends.mk [] [] (by simp [putPart, h, optV, zChunk_v])
  | true =>
    obtain ⟨p1, p2, p3, p4, p5⟩ := part_facts h
    obtain ⟨a, ha, ha2⟩ := inS_nat p1
    obtain ⟨b, hb, hb2⟩ := inS_nat p2
    obtain ⟨c, hc, hc2⟩ := inS_nat p3
    have w2 := words_ok [a, b, c] (by simp; omega) (by simp)
    simp [← ha, ← hb, ← hc] at w2
    have hw : wordsS [a, b, c] = put16 d.tsn ++ (put16 d.stream ++ put16 d.ssn) := by simp [wordsS, ha, hb, hc]
    rw [hw] at w2
    have hput : putPart d = some ⟨0, (if d.last = true then 1 else 0) + (if d.first = true then 2 else 0) + (if d.loose = true then 4 else 0), put16 d.tsn ++ put16 d.stream ++ put16 d.ssn ++ d.text⟩ := by unfold putPart; rw [if_pos h]
    simp
    cases e1 : d.last <;> cases e2 : d.first <;> cases e3 : d.loose <;> simp [e1, e2, e3]
    all_goals
      refine goDCall_gen [] [] [448] [] none w2 (by simp) (by simp) ?_
      simp
      exact ⟨by simp [put16_len]; omega, Ends.mk [] [] (by simp [hput, e1, e2, e3, optV, Chunk.v, Chunk.cells])⟩

theorem part_put {d : Part} (h : d.ok = true) : ∃ c, Fn Tryz.prog fn_impl_DataPut [d.v] [] (.tup [Chunk.v c, .bool true]) [] ∧ getPart c = some d ∧ c.kind = 0 ∧ c.ok = true := by
  obtain ⟨c, e1, e2, e3, e4⟩ := putPart_some h
  have p1 := impl_DataPut_ok d
  rw [opt_getS _ e1] at p1
  exact ⟨c, p1, e2, e3, e4⟩

theorem new_put (x : Assoc) (n : Nat) {stream ssn : Int} (loose : Bool) (h1 : 0 ≤ stream ∧ stream ≤ 65535) (h2 : 0 ≤ ssn ∧ ssn ≤ 65535) : ∃ c, Fn Tryz.prog fn_impl_DataPut [(newPart x n stream ssn loose).v] [] (.tup [Chunk.v c, .bool true]) [] ∧ getPart c = some (newPart x n stream ssn loose) ∧ c.kind = 0 ∧ c.ok = true := by
  exact part_put (newPart_ok x n loose h1 h2)
end

end Go.Proofs.YtldoekmblpghmaaGreat
