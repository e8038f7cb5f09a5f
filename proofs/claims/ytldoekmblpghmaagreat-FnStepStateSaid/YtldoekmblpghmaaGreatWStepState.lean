/-
  The law 'FnStepState' is proved: it returns true whatever the input, and the input reads as it did. No condition.
-/
import Derived.Test.YtldoekmblpghmaaGreatQ29
import Derived.Test.YtldoekmblpghmaaGreatRows
namespace Go.Proofs.YtldoekmblpghmaaGreat
set_option linter.all false
section
set_option maxRecDepth 100000
def ac_laws_FnStepState : AF := ⟨[0, 2, 3, 4, 5, 6, 7, 8, 11, 43], [.t 2],
  .seq (.region [⟨(.g 2), .mv (.c (.bool false)), none⟩])
  (.seq (.seq (.region [⟨(.l 9), .mv (.g 0), none⟩, ⟨(.l 10), .len (.l 9), none⟩, ⟨(.g 11), .bin .gtr (.l 10) (.c (.int .i64 1048576)), none⟩])
  (.cond (.g 11) (.seq (.region [⟨(.g 2), .mv (.c (.bool true)), none⟩])
   (.ret))
  (.skip)))
  (.seq (.region [⟨(.l 13), .mv (.g 0), none⟩, ⟨(.l 14), .call fn_spec_DrawAssocStep [(.l 13)], none⟩, ⟨(.l 12), .mv (.l 14), none⟩, ⟨(.l 15), .extract (.l 12) 0, none⟩, ⟨(.l 16), .extract (.l 12) 1, none⟩, ⟨(.g 3), .alloc [(.int .i64 0), (.int .i64 0), (.int .i64 0), (.bool false), (.int .i64 0), (.int .i64 0), (.int .i64 0), .nils, (.int .i64 0), (.int .i64 0), (.int .i64 0), (.int .i64 0), .nils, (.int .i64 0)], none⟩, ⟨(.g 4), .alloc [(.int .i64 0), (.int .i64 0), (.int .i64 0), .nils], none⟩, ⟨.no, .store 14 (.g 3) (.l 15), none⟩, ⟨.no, .store 4 (.g 4) (.l 16), none⟩])
  (.seq (.region [⟨(.l 18), .load true 14 (.g 3), none⟩, ⟨(.l 19), .load true 4 (.g 4), none⟩, ⟨(.l 20), .call fn_impl_AssocStep [(.l 18), (.l 19)], none⟩, ⟨(.l 17), .mv (.l 20), none⟩, ⟨(.l 21), .extract (.l 17) 0, none⟩, ⟨(.l 22), .extract (.l 17) 1, none⟩, ⟨(.g 5), .alloc [(.int .i64 0), (.int .i64 0), (.int .i64 0), (.bool false), (.int .i64 0), (.int .i64 0), (.int .i64 0), .nils, (.int .i64 0), (.int .i64 0), (.int .i64 0), (.int .i64 0), .nils, (.int .i64 0)], none⟩, ⟨.no, .store 14 (.g 5) (.l 21), none⟩, ⟨(.g 6), .mv (.l 22), none⟩])
  (.seq (.region [⟨(.l 24), .load true 14 (.g 3), none⟩, ⟨(.l 25), .load true 4 (.g 4), none⟩, ⟨(.l 26), .call fn_spec_AssocStep [(.l 24), (.l 25)], none⟩, ⟨(.l 23), .mv (.l 26), none⟩, ⟨(.l 27), .extract (.l 23) 0, none⟩, ⟨(.l 28), .extract (.l 23) 1, none⟩, ⟨(.g 7), .alloc [(.int .i64 0), (.int .i64 0), (.int .i64 0), (.bool false), (.int .i64 0), (.int .i64 0), (.int .i64 0), .nils, (.int .i64 0), (.int .i64 0), (.int .i64 0), (.int .i64 0), .nils, (.int .i64 0)], none⟩, ⟨.no, .store 14 (.g 7) (.l 27), none⟩, ⟨(.g 8), .mv (.l 28), none⟩])
  (.seq (.seq (.region [⟨(.l 29), .mv (.g 6), none⟩, ⟨(.l 30), .mv (.g 8), none⟩, ⟨(.l 31), .call fn_laws_sameInts [(.l 29), (.l 30)], none⟩, ⟨(.l 32), .un .not (.l 31), none⟩, ⟨(.l 33), .mv (.l 32), none⟩, ⟨(.l 34), .load true 14 (.g 5), (some ((.l 33), false))⟩, ⟨(.l 35), .load true 14 (.g 7), (some ((.l 33), false))⟩, ⟨(.l 36), .call fn_laws_sameAssoc [(.l 34), (.l 35)], (some ((.l 33), false))⟩, ⟨(.l 37), .un .not (.l 36), (some ((.l 33), false))⟩, ⟨(.l 38), .pick (.l 33) (.c (.bool true)) (.l 37), none⟩, ⟨(.l 39), .mv (.l 38), none⟩, ⟨(.l 40), .faddr 0 (.g 7), (some ((.l 39), false))⟩, ⟨(.l 41), .load false 1 (.l 40), (some ((.l 39), false))⟩, ⟨(.l 42), .bin .eql (.l 41) (.c (.int .i64 0)), (some ((.l 39), false))⟩, ⟨(.g 43), .pick (.l 39) (.c (.bool true)) (.l 42), none⟩])
  (.cond (.g 43) (.seq (.region [⟨(.l 44), .mv (.g 6), none⟩, ⟨(.l 45), .mv (.g 8), none⟩, ⟨(.l 46), .call fn_laws_sameInts [(.l 44), (.l 45)], none⟩, ⟨(.l 47), .mv (.l 46), none⟩, ⟨(.l 48), .load true 14 (.g 5), (some ((.l 47), true))⟩, ⟨(.l 49), .load true 14 (.g 7), (some ((.l 47), true))⟩, ⟨(.l 50), .call fn_laws_sameAssoc [(.l 48), (.l 49)], (some ((.l 47), true))⟩, ⟨(.l 51), .pick (.l 47) (.l 50) (.c (.bool false)), none⟩, ⟨(.g 2), .mv (.l 51), none⟩])
   (.ret))
  (.skip)))
  (.seq (.region [⟨(.l 52), .faddr 2 (.g 5), none⟩, ⟨(.l 53), .load false 1 (.l 52), none⟩, ⟨(.l 54), .faddr 2 (.g 3), none⟩, ⟨(.l 55), .load false 1 (.l 54), none⟩, ⟨(.l 56), .bin .geq (.l 53) (.l 55), none⟩, ⟨(.l 57), .mv (.l 56), none⟩, ⟨(.l 58), .faddr 4 (.g 5), (some ((.l 57), true))⟩, ⟨(.l 59), .faddr 4 (.l 58), (some ((.l 57), true))⟩, ⟨(.l 60), .load false 1 (.l 59), (some ((.l 57), true))⟩, ⟨(.l 61), .faddr 4 (.g 3), (some ((.l 57), true))⟩, ⟨(.l 62), .faddr 4 (.l 61), (some ((.l 57), true))⟩, ⟨(.l 63), .load false 1 (.l 62), (some ((.l 57), true))⟩, ⟨(.l 64), .bin .geq (.l 60) (.l 63), (some ((.l 57), true))⟩, ⟨(.l 65), .pick (.l 57) (.l 64) (.c (.bool false)), none⟩, ⟨(.l 66), .mv (.l 65), none⟩, ⟨(.l 67), .faddr 9 (.g 5), (some ((.l 66), true))⟩, ⟨(.l 68), .faddr 4 (.l 67), (some ((.l 66), true))⟩, ⟨(.l 69), .load false 1 (.l 68), (some ((.l 66), true))⟩, ⟨(.l 70), .faddr 9 (.g 3), (some ((.l 66), true))⟩, ⟨(.l 71), .faddr 4 (.l 70), (some ((.l 66), true))⟩, ⟨(.l 72), .load false 1 (.l 71), (some ((.l 66), true))⟩, ⟨(.l 73), .bin .geq (.l 69) (.l 72), (some ((.l 66), true))⟩, ⟨(.l 74), .pick (.l 66) (.l 73) (.c (.bool false)), none⟩, ⟨(.g 2), .mv (.l 74), none⟩])
  (.ret)))))))⟩
theorem ln_laws_FnStepState : Linked Tryz.prog fn_laws_FnStepState ac_laws_FnStepState := ⟨Tryz.f6, _, Tryz.func6, rfl, by kernel_rfl, by kernel_rfl, by kernel_rfl, by kernel_rfl⟩
end
end Go.Proofs.YtldoekmblpghmaaGreat

namespace Go.Proofs.YtldoekmblpghmaaGreat
set_option linter.all false
section
set_option maxRecDepth 200000
set_option maxHeartbeats 8000000
attribute [-simp] List.getD_eq_getElem?_getD

theorem FnStepState_ok (code : List UInt8) : Fn Tryz.prog fn_laws_FnStepState [bsl code] [] (.bool true) [] := by
  obtain ⟨x, p, hx, hp, f1⟩ := DrawAssocStep_ok code
  have g1 := impl_AssocStep_ok x p hx.bd (by omega)
  have g2 := spec_AssocStep_ok x p hx.bd (by omega)
  have g3 := sameInts_self (stepS x p).2 (by have := stepS_len x p; omega)
  have g4 := sameAssoc_self (stepS x p).1 (stepS_bd p)
  have hm := srcN (x := x) (p := p)
  have hbd := stepS_bd (x := x) p
  have hln := stepS_len x p
  have k := stepS_keeps (x := x) (p := p)
  generalize stepS x p = r at *
  obtain ⟨y, rl⟩ := r
  simp only at hm hbd hln k
  simp only [assoc_v, packet_v, isl] at f1 g1 g2 g3 g4
  refine Fn.of_go ln_laws_FnStepState rfl ?_
  simp [ac_laws_FnStepState, bsl]
  refine goTest_dec (fun h0 => ?_) (fun h0 => ?_)
  · simp
    exact Ends.mk [] [] (by simp)
  simp
  refine goCall_eq f1 (by simp [bsl]) ?_
  simp
  refine goCall_eq g1 (by simp) ?_
  simp
  refine goCall_eq g2 (by simp) ?_
  simp
  refine goCall_eq g3 (by simp) ?_
  simp
  refine goCall_eq g4 (by simp) ?_
  simp
  cases h1 : decide (y.src = 0)
  rotate_left
  · simp
    refine goCall_eq g3 (by simp) ?_
    simp
    refine goCall_eq g4 (by simp) ?_
    simp
    exact Ends.mk [] [] (by simp)
  have hm := hm h1
  have k1 := (k hm).state
  have k2 := (k hm).aa
  have k3 := (k hm).ba
  simp [k1, k2, k3]
  exact Ends.mk [] [] (by simp)
end
end Go.Proofs.YtldoekmblpghmaaGreat

namespace Go.Proofs.YtldoekmblpghmaaGreat.fnStepState
set_option linter.all false
open Go.ChangeShapes Go.WideShapes Go.ChangeAt Go.RowKit

theorem own : ownKnob Tryz.prog.godebug = none := by kernel_rfl
theorem laidOut : laidOutB Tryz.prog = true := by kernel_rfl

set_option maxRecDepth 100000 in
theorem lifted (os : Os) (started : os.Started) (H : Type) (enc : TypeId × Value → H) :
    ReturnsInHanded {} Tryz.checked os 6 .any (Rows.fnStepStateSpec.pre6 enc Tryz.prog Tryz.f6 Rows.fnStepStateRow.domain false) (Rows.fnStepStateSpec.post enc Tryz.prog Tryz.f6 false true false false) := by
  refine returnsInHanded_of_change_shaped (C := Tryz.checked) own started (by kernel_rfl) Tryz.func6
    (ChangeSpec.witness6 (enc := enc) (C := Tryz.checked) false ⟨#[], #[.slice none 0 0], []⟩ 8 (by kernel_rfl) (by kernel_rfl) (by kernel_rfl) (by kernel_rfl)) ?_
  intro W base args ds gs before hval0 hW _ _ hsh _
  have hval : ∀ (j : Nat) t v, Tryz.f6.params[j]? = some t → args[j]? = some v → Value.okWide Tryz.prog W .any base t v := hval0
  have hW' := hW
  obtain ⟨p, q, hA0, hV, rfl, hfz, hnd⟩ := hW
  have hA : DataW.TrodAll enc Tryz.prog W 0 (fun _ => true) true Tryz.f6.params.toList args.toList ds p := hA0
  rw [Tryz.params6] at hA hval
  obtain ⟨v0, d0, rfl, rfl, h0⟩ := trodAll_one hA
  obtain ⟨rfl, rfl⟩ := trodVars_none hV
  clear hA0 hval0
  simp only [List.append_nil] at hW'
  obtain ⟨l0, hl0⟩ := open_bytes Tryz.underlying22 Tryz.underlying5 (by kernel_rfl) (hval 0 22 v0 rfl rfl) h0
  refine ((FnStepState_ok l0).calls_true rfl W [v0] (tabsW W hsh) (rel_one hl0)).mono fun e W' ⟨he, hb⟩ => ?_
  subst he
  have hlt : ∀ x ∈ p, x.block < W.heap.size := fun x hx => by simpa using hW'.lt x hx
  have hargs := Below.trod laidOut (by kernel_rfl) (of_decide_eq_true (by kernel_rfl)) h0 hb hlt
  exact ⟨_, rfl, ⟨_, _, _, [], _, [], hW', trodAll_mk1 (shut_bool Tryz.underlying4 _), trodAll_mk1 hargs, rfl, hb.frame _, fun h => by cases h⟩⟩

theorem closed : joinedFacts Tryz.prog 6 Tryz.f6 Rows.fnStepStateSpec Rows.fnStepStateRow = true := by
  have key : ∀ P : Program, P = Tryz.prog → P.mayEnter = true → P.liftsFinal = false → P.make = some .cut → joinedFacts P 6 Tryz.f6 Rows.fnStepStateSpec Rows.fnStepStateRow = true := by
    intro P hP h1 h2 h3
    unfold joinedFacts
    rw [h1, h2, h3]
    subst hP
    kernel_rfl
  exact key _ rfl enters finals makes

theorem proved : Rows.FnStepStateSaid :=
  OpenClaim.holds_of_wide 6 Tryz.f6 rfl rfl rfl rfl rfl rfl rfl ⟨rfl, rfl, rfl, rfl, rfl⟩ rfl rfl rfl rfl rfl (by kernel_rfl) Tryz.func6 closed
    (of_decide_eq_true (by kernel_rfl)) (by unfold Func.isWrapper; first | (rw [if_pos (by decide +kernel)]; kernel_rfl) | (rw [if_neg (by decide +kernel)]; exact ⟨rfl, rfl⟩))
    (fun os started H enc _ => lifted os started H enc)
end Go.Proofs.YtldoekmblpghmaaGreat.fnStepState
