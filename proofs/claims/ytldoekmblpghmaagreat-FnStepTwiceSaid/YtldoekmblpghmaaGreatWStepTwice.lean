/-
  The law 'FnStepTwice' is proved: it returns true whatever the input, and the input reads as it did. No condition.
-/
import Derived.Test.YtldoekmblpghmaaGreatQ29
import Derived.Test.YtldoekmblpghmaaGreatRows
namespace Go.Proofs.YtldoekmblpghmaaGreat
set_option linter.all false
section
set_option maxRecDepth 100000
def ac_laws_FnStepTwice : AF := ⟨[0, 2, 3, 4, 5, 6, 7, 8, 9, 10, 13, 61], [.t 2],
  .seq (.region [⟨(.g 2), .mv (.c (.bool false)), none⟩])
  (.seq (.seq (.region [⟨(.l 11), .mv (.g 0), none⟩, ⟨(.l 12), .len (.l 11), none⟩, ⟨(.g 13), .bin .gtr (.l 12) (.c (.int .i64 1048576)), none⟩])
  (.cond (.g 13) (.seq (.region [⟨(.g 2), .mv (.c (.bool true)), none⟩])
   (.ret))
  (.skip)))
  (.seq (.region [⟨(.l 15), .mv (.g 0), none⟩, ⟨(.l 16), .call fn_spec_DrawAssocStep [(.l 15)], none⟩, ⟨(.l 14), .mv (.l 16), none⟩, ⟨(.l 17), .extract (.l 14) 0, none⟩, ⟨(.l 18), .extract (.l 14) 1, none⟩, ⟨(.g 3), .alloc [(.int .i64 0), (.int .i64 0), (.int .i64 0), (.bool false), (.int .i64 0), (.int .i64 0), (.int .i64 0), .nils, (.int .i64 0), (.int .i64 0), (.int .i64 0), (.int .i64 0), .nils, (.int .i64 0)], none⟩, ⟨(.g 4), .alloc [(.int .i64 0), (.int .i64 0), (.int .i64 0), .nils], none⟩, ⟨.no, .store 14 (.g 3) (.l 17), none⟩, ⟨.no, .store 4 (.g 4) (.l 18), none⟩])
  (.seq (.region [⟨(.l 20), .load true 14 (.g 3), none⟩, ⟨(.l 21), .load true 4 (.g 4), none⟩, ⟨(.l 22), .call fn_impl_AssocStep [(.l 20), (.l 21)], none⟩, ⟨(.l 19), .mv (.l 22), none⟩, ⟨(.l 23), .extract (.l 19) 0, none⟩, ⟨(.l 24), .extract (.l 19) 1, none⟩, ⟨(.g 5), .alloc [(.int .i64 0), (.int .i64 0), (.int .i64 0), (.bool false), (.int .i64 0), (.int .i64 0), (.int .i64 0), .nils, (.int .i64 0), (.int .i64 0), (.int .i64 0), (.int .i64 0), .nils, (.int .i64 0)], none⟩, ⟨.no, .store 14 (.g 5) (.l 23), none⟩, ⟨(.g 6), .mv (.l 24), none⟩])
  (.seq (.region [⟨(.l 26), .load true 14 (.g 3), none⟩, ⟨(.l 27), .load true 4 (.g 4), none⟩, ⟨(.l 28), .call fn_spec_AssocStep [(.l 26), (.l 27)], none⟩, ⟨(.l 25), .mv (.l 28), none⟩, ⟨(.l 29), .extract (.l 25) 0, none⟩, ⟨(.l 30), .extract (.l 25) 1, none⟩, ⟨(.g 7), .alloc [(.int .i64 0), (.int .i64 0), (.int .i64 0), (.bool false), (.int .i64 0), (.int .i64 0), (.int .i64 0), .nils, (.int .i64 0), (.int .i64 0), (.int .i64 0), (.int .i64 0), .nils, (.int .i64 0)], none⟩, ⟨.no, .store 14 (.g 7) (.l 29), none⟩, ⟨(.g 8), .mv (.l 30), none⟩])
  (.seq (.seq (.region [⟨(.l 31), .mv (.g 6), none⟩, ⟨(.l 32), .mv (.g 8), none⟩, ⟨(.l 33), .call fn_laws_sameInts [(.l 31), (.l 32)], none⟩, ⟨(.l 34), .un .not (.l 33), none⟩, ⟨(.l 35), .mv (.l 34), none⟩, ⟨(.l 36), .load true 14 (.g 5), (some ((.l 35), false))⟩, ⟨(.l 37), .load true 14 (.g 7), (some ((.l 35), false))⟩, ⟨(.l 38), .call fn_laws_sameAssoc [(.l 36), (.l 37)], (some ((.l 35), false))⟩, ⟨(.l 39), .un .not (.l 38), (some ((.l 35), false))⟩, ⟨(.l 40), .pick (.l 35) (.c (.bool true)) (.l 39), none⟩, ⟨(.l 41), .mv (.l 40), none⟩, ⟨(.l 42), .faddr 0 (.g 7), (some ((.l 41), false))⟩, ⟨(.l 43), .load false 1 (.l 42), (some ((.l 41), false))⟩, ⟨(.l 44), .bin .eql (.l 43) (.c (.int .i64 0)), (some ((.l 41), false))⟩, ⟨(.l 45), .pick (.l 41) (.c (.bool true)) (.l 44), none⟩, ⟨(.l 46), .mv (.l 45), none⟩, ⟨(.l 47), .mv (.g 6), (some ((.l 46), false))⟩, ⟨(.l 48), .len (.l 47), (some ((.l 46), false))⟩, ⟨(.l 49), .bin .gtr (.l 48) (.c (.int .i64 0)), (some ((.l 46), false))⟩, ⟨(.l 50), .pick (.l 46) (.c (.bool true)) (.l 49), none⟩, ⟨(.l 51), .mv (.l 50), none⟩, ⟨(.l 52), .faddr 3 (.g 4), (some ((.l 51), false))⟩, ⟨(.l 53), .load false 1 (.l 52), (some ((.l 51), false))⟩, ⟨(.l 54), .len (.l 53), (some ((.l 51), false))⟩, ⟨(.l 55), .bin .gtr (.l 54) (.c (.int .i64 1)), (some ((.l 51), false))⟩, ⟨(.l 56), .pick (.l 51) (.c (.bool true)) (.l 55), none⟩, ⟨(.l 57), .mv (.l 56), none⟩, ⟨(.l 58), .faddr 2 (.g 7), (some ((.l 57), false))⟩, ⟨(.l 59), .load false 1 (.l 58), (some ((.l 57), false))⟩, ⟨(.l 60), .bin .eql (.l 59) (.c (.int .i64 7)), (some ((.l 57), false))⟩, ⟨(.g 61), .pick (.l 57) (.c (.bool true)) (.l 60), none⟩])
  (.cond (.g 61) (.seq (.region [⟨(.l 62), .mv (.g 6), none⟩, ⟨(.l 63), .mv (.g 8), none⟩, ⟨(.l 64), .call fn_laws_sameInts [(.l 62), (.l 63)], none⟩, ⟨(.l 65), .mv (.l 64), none⟩, ⟨(.l 66), .load true 14 (.g 5), (some ((.l 65), true))⟩, ⟨(.l 67), .load true 14 (.g 7), (some ((.l 65), true))⟩, ⟨(.l 68), .call fn_laws_sameAssoc [(.l 66), (.l 67)], (some ((.l 65), true))⟩, ⟨(.l 69), .pick (.l 65) (.l 68) (.c (.bool false)), none⟩, ⟨(.g 2), .mv (.l 69), none⟩])
   (.ret))
  (.skip)))
  (.seq (.region [⟨(.l 71), .load true 14 (.g 5), none⟩, ⟨(.l 72), .load true 4 (.g 4), none⟩, ⟨(.l 73), .call fn_impl_AssocStep [(.l 71), (.l 72)], none⟩, ⟨(.l 70), .mv (.l 73), none⟩, ⟨(.l 74), .extract (.l 70) 0, none⟩, ⟨(.l 75), .extract (.l 70) 1, none⟩, ⟨(.g 9), .alloc [(.int .i64 0), (.int .i64 0), (.int .i64 0), (.bool false), (.int .i64 0), (.int .i64 0), (.int .i64 0), .nils, (.int .i64 0), (.int .i64 0), (.int .i64 0), (.int .i64 0), .nils, (.int .i64 0)], none⟩, ⟨.no, .store 14 (.g 9) (.l 74), none⟩, ⟨(.g 10), .mv (.l 75), none⟩])
  (.seq (.region [⟨(.l 76), .mv (.g 10), none⟩, ⟨(.l 77), .len (.l 76), none⟩, ⟨(.l 78), .bin .eql (.l 77) (.c (.int .i64 0)), none⟩, ⟨(.l 79), .mv (.l 78), none⟩, ⟨(.l 80), .load true 14 (.g 9), (some ((.l 79), true))⟩, ⟨(.l 81), .load true 14 (.g 5), (some ((.l 79), true))⟩, ⟨(.l 82), .call fn_laws_sameAssoc [(.l 80), (.l 81)], (some ((.l 79), true))⟩, ⟨(.l 83), .pick (.l 79) (.l 82) (.c (.bool false)), none⟩, ⟨(.g 2), .mv (.l 83), none⟩])
  (.ret))))))))⟩
theorem ln_laws_FnStepTwice : Linked Tryz.prog fn_laws_FnStepTwice ac_laws_FnStepTwice := ⟨Tryz.f7, _, Tryz.func7, rfl, by kernel_rfl, by kernel_rfl, by kernel_rfl, by kernel_rfl⟩
end
end Go.Proofs.YtldoekmblpghmaaGreat

namespace Go.Proofs.YtldoekmblpghmaaGreat
set_option linter.all false
section
set_option maxRecDepth 200000
set_option maxHeartbeats 8000000
attribute [-simp] List.getD_eq_getElem?_getD

theorem FnStepTwice_ok (code : List UInt8) : Fn Tryz.prog fn_laws_FnStepTwice [bsl code] [] (.bool true) [] := by
  obtain ⟨x, p, hx, hp, f1⟩ := DrawAssocStep_ok code
  have g1 := impl_AssocStep_ok x p hx.bd (by omega)
  have g2 := spec_AssocStep_ok x p hx.bd (by omega)
  have g3 := sameInts_self (stepS x p).2 (by have := stepS_len x p; omega)
  have g4 := sameAssoc_self (stepS x p).1 (stepS_bd p)
  have hm := srcN (x := x) (p := p)
  have hbd := stepS_bd (x := x) p
  have hln := stepS_len x p
  have k := step_twice (x := x) (p := p)
  have g5 := impl_AssocStep_ok (stepS x p).1 p (stepS_bd p) (by omega)
  generalize stepS x p = r at *
  obtain ⟨y, rl⟩ := r
  simp only at hm hbd hln k g5
  simp only [assoc_v, packet_v, isl] at f1 g1 g2 g3 g4
  refine Fn.of_go ln_laws_FnStepTwice rfl ?_
  simp [ac_laws_FnStepTwice, bsl]
  refine goTest_dec (fun h0 => ?_) (fun h0 => ?_)
  · simp
    exact Ends.mk [] [] (by simp)
  simp
  refine goCall_eq f1 (by simp [bsl]) ?_
  simp
  refine goCall_eq g1 (by simp) ?_
  simp
  refine goCall_eq g2 (by simp) ?_
  simp
  refine goCall_eq g3 (by simp) ?_
  simp
  refine goCall_eq g4 (by simp) ?_
  simp
  cases h1 : decide (y.src = 0)
  rotate_left
  · simp
    refine goCall_eq g3 (by simp) ?_
    simp
    refine goCall_eq g4 (by simp) ?_
    simp
    exact Ends.mk [] [] (by simp)
  have hm := hm h1
  simp
  cases h2 : decide (0 < rl.length)
  rotate_left
  · simp
    refine goCall_eq g3 (by simp) ?_
    simp
    refine goCall_eq g4 (by simp) ?_
    simp
    exact Ends.mk [] [] (by simp)
  simp
  have e2 : rl = [] := by cases rl with | nil => rfl | cons a l => simp at h2
  cases h3 : decide (1 < p.chunks.length)
  rotate_left
  · simp
    refine goCall_eq g3 (by simp) ?_
    simp
    refine goCall_eq g4 (by simp) ?_
    simp
    exact Ends.mk [] [] (by simp)
  simp
  cases h4 : decide (y.state = 7)
  rotate_left
  · simp
    refine goCall_eq g3 (by simp) ?_
    simp
    refine goCall_eq g4 (by simp) ?_
    simp
    exact Ends.mk [] [] (by simp)
  simp
  rw [k hm e2 (by have := of_decide_eq_false h3; omega) (of_decide_eq_false h4)] at g5
  simp only [assoc_v, packet_v, isl] at g5
  refine goCall_eq g5 (by simp) ?_
  simp
  refine goCall_eq g4 (by simp) ?_
  simp
  exact Ends.mk [] [] (by simp)
end
end Go.Proofs.YtldoekmblpghmaaGreat

namespace Go.Proofs.YtldoekmblpghmaaGreat.fnStepTwice
set_option linter.all false
open Go.ChangeShapes Go.WideShapes Go.ChangeAt Go.RowKit

theorem own : ownKnob Tryz.prog.godebug = none := by kernel_rfl
theorem laidOut : laidOutB Tryz.prog = true := by kernel_rfl

set_option maxRecDepth 100000 in
theorem lifted (os : Os) (started : os.Started) (H : Type) (enc : TypeId × Value → H) :
    ReturnsInHanded {} Tryz.checked os 7 .any (Rows.fnStepTwiceSpec.pre6 enc Tryz.prog Tryz.f7 Rows.fnStepTwiceRow.domain false) (Rows.fnStepTwiceSpec.post enc Tryz.prog Tryz.f7 false true false false) := by
  refine returnsInHanded_of_change_shaped (C := Tryz.checked) own started (by kernel_rfl) Tryz.func7
    (ChangeSpec.witness6 (enc := enc) (C := Tryz.checked) false ⟨#[], #[.slice none 0 0], []⟩ 8 (by kernel_rfl) (by kernel_rfl) (by kernel_rfl) (by kernel_rfl)) ?_
  intro W base args ds gs before hval0 hW _ _ hsh _
  have hval : ∀ (j : Nat) t v, Tryz.f7.params[j]? = some t → args[j]? = some v → Value.okWide Tryz.prog W .any base t v := hval0
  have hW' := hW
  obtain ⟨p, q, hA0, hV, rfl, hfz, hnd⟩ := hW
  have hA : DataW.TrodAll enc Tryz.prog W 0 (fun _ => true) true Tryz.f7.params.toList args.toList ds p := hA0
  rw [Tryz.params7] at hA hval
  obtain ⟨v0, d0, rfl, rfl, h0⟩ := trodAll_one hA
  obtain ⟨rfl, rfl⟩ := trodVars_none hV
  clear hA0 hval0
  simp only [List.append_nil] at hW'
  obtain ⟨l0, hl0⟩ := open_bytes Tryz.underlying22 Tryz.underlying5 (by kernel_rfl) (hval 0 22 v0 rfl rfl) h0
  refine ((FnStepTwice_ok l0).calls_true rfl W [v0] (tabsW W hsh) (rel_one hl0)).mono fun e W' ⟨he, hb⟩ => ?_
  subst he
  have hlt : ∀ x ∈ p, x.block < W.heap.size := fun x hx => by simpa using hW'.lt x hx
  have hargs := Below.trod laidOut (by kernel_rfl) (of_decide_eq_true (by kernel_rfl)) h0 hb hlt
  exact ⟨_, rfl, ⟨_, _, _, [], _, [], hW', trodAll_mk1 (shut_bool Tryz.underlying4 _), trodAll_mk1 hargs, rfl, hb.frame _, fun h => by cases h⟩⟩

theorem closed : joinedFacts Tryz.prog 7 Tryz.f7 Rows.fnStepTwiceSpec Rows.fnStepTwiceRow = true := by
  have key : ∀ P : Program, P = Tryz.prog → P.mayEnter = true → P.liftsFinal = false → P.make = some .cut → joinedFacts P 7 Tryz.f7 Rows.fnStepTwiceSpec Rows.fnStepTwiceRow = true := by
    intro P hP h1 h2 h3
    unfold joinedFacts
    rw [h1, h2, h3]
    subst hP
    kernel_rfl
  exact key _ rfl enters finals makes

theorem proved : Rows.FnStepTwiceSaid :=
  OpenClaim.holds_of_wide 7 Tryz.f7 rfl rfl rfl rfl rfl rfl rfl ⟨rfl, rfl, rfl, rfl, rfl⟩ rfl rfl rfl rfl rfl (by kernel_rfl) Tryz.func7 closed
    (of_decide_eq_true (by kernel_rfl)) (by unfold Func.isWrapper; first | (rw [if_pos (by decide +kernel)]; kernel_rfl) | (rw [if_neg (by decide +kernel)]; exact ⟨rfl, rfl⟩))
    (fun os started H enc _ => lifted os started H enc)
end Go.Proofs.YtldoekmblpghmaaGreat.fnStepTwice
