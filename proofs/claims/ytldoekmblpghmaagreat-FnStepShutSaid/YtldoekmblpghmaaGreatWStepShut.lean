/-
  The law 'FnStepShut' is proved: it returns true whatever the input, and the input reads as it did. No condition.
-/
import Derived.Test.YtldoekmblpghmaaGreatQ29
import Derived.Test.YtldoekmblpghmaaGreatRows
namespace Go.Proofs.YtldoekmblpghmaaGreat
set_option linter.all false
section
set_option maxRecDepth 100000
def ac_laws_FnStepShut : AF := ⟨[0, 2, 3, 4, 5, 6, 7, 8, 9, 10, 13, 50, 74], [.t 2],
  .seq (.region [⟨(.g 2), .mv (.c (.bool false)), none⟩])
  (.seq (.seq (.region [⟨(.l 11), .mv (.g 0), none⟩, ⟨(.l 12), .len (.l 11), none⟩, ⟨(.g 13), .bin .gtr (.l 12) (.c (.int .i64 1048576)), none⟩])
  (.cond (.g 13) (.seq (.region [⟨(.g 2), .mv (.c (.bool true)), none⟩])
   (.ret))
  (.skip)))
  (.seq (.region [⟨(.l 15), .mv (.g 0), none⟩, ⟨(.l 16), .call fn_spec_DrawAssocStep [(.l 15)], none⟩, ⟨(.l 14), .mv (.l 16), none⟩, ⟨(.l 17), .extract (.l 14) 0, none⟩, ⟨(.l 18), .extract (.l 14) 1, none⟩, ⟨(.g 3), .alloc [(.int .i64 0), (.int .i64 0), (.int .i64 0), (.bool false), (.int .i64 0), (.int .i64 0), (.int .i64 0), .nils, (.int .i64 0), (.int .i64 0), (.int .i64 0), (.int .i64 0), .nils, (.int .i64 0)], none⟩, ⟨(.g 4), .alloc [(.int .i64 0), (.int .i64 0), (.int .i64 0), .nils], none⟩, ⟨.no, .store 14 (.g 3) (.l 17), none⟩, ⟨.no, .store 4 (.g 4) (.l 18), none⟩])
  (.seq (.region [⟨(.l 20), .load true 14 (.g 3), none⟩, ⟨(.l 21), .load true 4 (.g 4), none⟩, ⟨(.l 22), .call fn_impl_AssocStep [(.l 20), (.l 21)], none⟩, ⟨(.l 19), .mv (.l 22), none⟩, ⟨(.l 23), .extract (.l 19) 0, none⟩, ⟨(.l 24), .extract (.l 19) 1, none⟩, ⟨(.g 5), .alloc [(.int .i64 0), (.int .i64 0), (.int .i64 0), (.bool false), (.int .i64 0), (.int .i64 0), (.int .i64 0), .nils, (.int .i64 0), (.int .i64 0), (.int .i64 0), (.int .i64 0), .nils, (.int .i64 0)], none⟩, ⟨.no, .store 14 (.g 5) (.l 23), none⟩, ⟨(.g 6), .mv (.l 24), none⟩])
  (.seq (.region [⟨(.l 26), .load true 14 (.g 3), none⟩, ⟨(.l 27), .load true 4 (.g 4), none⟩, ⟨(.l 28), .call fn_spec_AssocStep [(.l 26), (.l 27)], none⟩, ⟨(.l 25), .mv (.l 28), none⟩, ⟨(.l 29), .extract (.l 25) 0, none⟩, ⟨(.l 30), .extract (.l 25) 1, none⟩, ⟨(.g 7), .alloc [(.int .i64 0), (.int .i64 0), (.int .i64 0), (.bool false), (.int .i64 0), (.int .i64 0), (.int .i64 0), .nils, (.int .i64 0), (.int .i64 0), (.int .i64 0), (.int .i64 0), .nils, (.int .i64 0)], none⟩, ⟨.no, .store 14 (.g 7) (.l 29), none⟩, ⟨(.g 8), .mv (.l 30), none⟩])
  (.seq (.seq (.region [⟨(.l 31), .mv (.g 6), none⟩, ⟨(.l 32), .mv (.g 8), none⟩, ⟨(.l 33), .call fn_laws_sameInts [(.l 31), (.l 32)], none⟩, ⟨(.l 34), .un .not (.l 33), none⟩, ⟨(.l 35), .mv (.l 34), none⟩, ⟨(.l 36), .load true 14 (.g 5), (some ((.l 35), false))⟩, ⟨(.l 37), .load true 14 (.g 7), (some ((.l 35), false))⟩, ⟨(.l 38), .call fn_laws_sameAssoc [(.l 36), (.l 37)], (some ((.l 35), false))⟩, ⟨(.l 39), .un .not (.l 38), (some ((.l 35), false))⟩, ⟨(.l 40), .pick (.l 35) (.c (.bool true)) (.l 39), none⟩, ⟨(.l 41), .mv (.l 40), none⟩, ⟨(.l 42), .faddr 0 (.g 7), (some ((.l 41), false))⟩, ⟨(.l 43), .load false 1 (.l 42), (some ((.l 41), false))⟩, ⟨(.l 44), .bin .eql (.l 43) (.c (.int .i64 0)), (some ((.l 41), false))⟩, ⟨(.l 45), .pick (.l 41) (.c (.bool true)) (.l 44), none⟩, ⟨(.l 46), .mv (.l 45), none⟩, ⟨(.l 47), .faddr 2 (.g 3), (some ((.l 46), false))⟩, ⟨(.l 48), .load false 1 (.l 47), (some ((.l 46), false))⟩, ⟨(.l 49), .bin .neq (.l 48) (.c (.int .i64 4)), (some ((.l 46), false))⟩, ⟨(.g 50), .pick (.l 46) (.c (.bool true)) (.l 49), none⟩])
  (.cond (.g 50) (.seq (.region [⟨(.l 51), .mv (.g 6), none⟩, ⟨(.l 52), .mv (.g 8), none⟩, ⟨(.l 53), .call fn_laws_sameInts [(.l 51), (.l 52)], none⟩, ⟨(.l 54), .mv (.l 53), none⟩, ⟨(.l 55), .load true 14 (.g 5), (some ((.l 54), true))⟩, ⟨(.l 56), .load true 14 (.g 7), (some ((.l 54), true))⟩, ⟨(.l 57), .call fn_laws_sameAssoc [(.l 55), (.l 56)], (some ((.l 54), true))⟩, ⟨(.l 58), .pick (.l 54) (.l 57) (.c (.bool false)), none⟩, ⟨(.g 2), .mv (.l 58), none⟩])
   (.ret))
  (.skip)))
  (.seq (.drawn [⟨(.l 60), .load true 14 (.g 3), none⟩, ⟨(.l 61), .load true 14 (.g 3), none⟩, ⟨(.l 62), .build [(.int .i64 0), (.int .i64 0), (.str [])] [(0, 1, (.c (.int .i64 7)))], none⟩, ⟨(.l 63), .call fn_laws_from [(.l 61), (.c (.bool false)), (.l 62)], none⟩, ⟨(.l 64), .call fn_impl_AssocStep [(.l 60), (.l 63)], none⟩, ⟨(.l 59), .mv (.l 64), none⟩, ⟨(.l 65), .extract (.l 59) 0, none⟩, ⟨(.l 66), .extract (.l 59) 1, none⟩, ⟨(.g 9), .alloc [(.int .i64 0), (.int .i64 0), (.int .i64 0), (.bool false), (.int .i64 0), (.int .i64 0), (.int .i64 0), .nils, (.int .i64 0), (.int .i64 0), (.int .i64 0), (.int .i64 0), .nils, (.int .i64 0)], none⟩, ⟨.no, .store 14 (.g 9) (.l 65), none⟩] [[], [0], [], [0], [], [], [], [], [4, 3, 1, 0], []] [⟨(.g 10), .mv (.l 66), none⟩])
  (.seq (.seq (.region [⟨(.l 67), .faddr 4 (.g 3), none⟩, ⟨(.l 68), .faddr 4 (.l 67), none⟩, ⟨(.l 69), .load false 1 (.l 68), none⟩, ⟨(.l 70), .faddr 4 (.g 3), none⟩, ⟨(.l 71), .faddr 3 (.l 70), none⟩, ⟨(.l 72), .load false 1 (.l 71), none⟩, ⟨(.l 73), .len (.l 72), none⟩, ⟨(.g 74), .bin .lss (.l 69) (.l 73), none⟩])
  (.cond (.g 74) (.seq (.region [⟨(.l 75), .mv (.g 10), none⟩, ⟨(.l 76), .call fn_laws_one [(.l 75), (.c (.int .i64 10))], none⟩, ⟨(.g 2), .mv (.l 76), none⟩])
   (.ret))
  (.skip)))
  (.seq (.region [⟨(.l 77), .mv (.g 10), none⟩, ⟨(.l 78), .len (.l 77), none⟩, ⟨(.l 79), .bin .eql (.l 78) (.c (.int .i64 0)), none⟩, ⟨(.l 80), .mv (.l 79), none⟩, ⟨(.l 81), .faddr 2 (.g 9), (some ((.l 80), true))⟩, ⟨(.l 82), .load false 1 (.l 81), (some ((.l 80), true))⟩, ⟨(.l 83), .bin .eql (.l 82) (.c (.int .i64 5)), (some ((.l 80), true))⟩, ⟨(.l 84), .pick (.l 80) (.l 83) (.c (.bool false)), none⟩, ⟨(.l 85), .mv (.l 84), none⟩, ⟨(.l 86), .faddr 3 (.g 9), (some ((.l 85), true))⟩, ⟨(.l 87), .load false 1 (.l 86), (some ((.l 85), true))⟩, ⟨(.l 88), .un .not (.l 87), (some ((.l 85), true))⟩, ⟨(.l 89), .pick (.l 85) (.l 88) (.c (.bool false)), none⟩, ⟨(.g 2), .mv (.l 89), none⟩])
  (.ret)))))))))⟩
theorem ln_laws_FnStepShut : Linked Tryz.prog fn_laws_FnStepShut ac_laws_FnStepShut := ⟨Tryz.f13, _, Tryz.func13, rfl, by kernel_rfl, by kernel_rfl, by kernel_rfl, by kernel_rfl⟩
end
end Go.Proofs.YtldoekmblpghmaaGreat

namespace Go.Proofs.YtldoekmblpghmaaGreat
set_option linter.all false
section
set_option maxRecDepth 200000
set_option maxHeartbeats 8000000
attribute [-simp] List.getD_eq_getElem?_getD

theorem FnStepShut_ok (code : List UInt8) : Fn Tryz.prog fn_laws_FnStepShut [bsl code] [] (.bool true) [] := by
  obtain ⟨x, p, hx, hp, f1⟩ := DrawAssocStep_ok code
  have g1 := impl_AssocStep_ok x p hx.bd (by omega)
  have g2 := spec_AssocStep_ok x p hx.bd (by omega)
  have g3 := sameInts_self (stepS x p).2 (by have := stepS_len x p; omega)
  have g4 := sameAssoc_self (stepS x p).1 (stepS_bd p)
  have hm := srcN (x := x) (p := p)
  have hbd := stepS_bd (x := x) p
  have hln := stepS_len x p
  generalize stepS x p = r at *
  obtain ⟨y, rl⟩ := r
  simp only at hm hbd hln
  simp only [assoc_v, packet_v, isl] at f1 g1 g2 g3 g4
  refine Fn.of_go ln_laws_FnStepShut rfl ?_
  simp [ac_laws_FnStepShut, bsl]
  refine goTest_dec (fun h0 => ?_) (fun h0 => ?_)
  · simp
    exact Ends.mk [] [] (by simp)
  simp
  refine goCall_eq f1 (by simp [bsl]) ?_
  simp
  refine goCall_eq g1 (by simp) ?_
  simp
  refine goCall_eq g2 (by simp) ?_
  simp
  refine goCall_eq g3 (by simp) ?_
  simp
  refine goCall_eq g4 (by simp) ?_
  simp
  cases h1 : decide (y.src = 0)
  rotate_left
  · simp
    refine goCall_eq g3 (by simp) ?_
    simp
    refine goCall_eq g4 (by simp) ?_
    simp
    exact Ends.mk [] [] (by simp)
  have hm := hm h1
  simp
  cases h2 : decide (x.state = 4)
  · simp
    refine goCall_eq g3 (by simp) ?_
    simp
    refine goCall_eq g4 (by simp) ?_
    simp
    exact Ends.mk [] [] (by simp)
  simp
  have hxo := (mine_iff.1 hm).1
  have ho := OpenA.mk' hxo (of_decide_eq_true h2)
  have hf := ho.first
  have hl := ho.len
  have q1 := from_ok x false shutC
  have hsh := step_shut ho
  have a1 := impl_AssocStep_ok x (fromS x false shutC) hx.bd (by simp [fromS])
  have hac := ho.acked
  cases h3 : decide (x.a.acked = x.a.sent.length)
  · rw [if_neg (of_decide_eq_false h3)] at hsh
    rw [one_from hxo false (by decide) (by decide) hsh (by omega)] at a1
    have o1 := one_ok [10] 10
    simp only [assoc_v, from_v, shutC, chunk_v, isl] at q1 a1 o1
    refine goDCall_eq q1 (by simp) (by simp) ?_
    simp
    refine goDCall_eq a1 (by simp) (by simp) ?_
    simp
    refine goTest_dec (fun h4 => ?_) (fun h4 => ?_)
    · simp
      refine goCall_eq o1 (by simp) ?_
      simp
      exact Ends.mk [] [] (by simp)
    · exact absurd (of_decide_eq_false h3) (by omega)
  · rw [if_pos (of_decide_eq_true h3)] at hsh
    rw [fine_from hxo false (by decide) (by decide) hsh] at a1
    simp only [assoc_v, from_v, shutC, chunk_v, isl] at q1 a1
    have h3 := of_decide_eq_true h3
    refine goDCall_eq q1 (by simp) (by simp) ?_
    simp
    refine goDCall_eq a1 (by simp) (by simp) ?_
    simp
    refine goTest_dec (fun h4 => ?_) (fun h4 => ?_)
    · exfalso; omega
    · simp
      exact Ends.mk [] [] (by simp)
end
end Go.Proofs.YtldoekmblpghmaaGreat

namespace Go.Proofs.YtldoekmblpghmaaGreat.fnStepShut
set_option linter.all false
open Go.ChangeShapes Go.WideShapes Go.ChangeAt Go.RowKit

theorem own : ownKnob Tryz.prog.godebug = none := by kernel_rfl
theorem laidOut : laidOutB Tryz.prog = true := by kernel_rfl

set_option maxRecDepth 100000 in
theorem lifted (os : Os) (started : os.Started) (H : Type) (enc : TypeId × Value → H) :
    ReturnsInHanded {} Tryz.checked os 13 .any (Rows.fnStepShutSpec.pre6 enc Tryz.prog Tryz.f13 Rows.fnStepShutRow.domain false) (Rows.fnStepShutSpec.post enc Tryz.prog Tryz.f13 false true false false) := by
  refine returnsInHanded_of_change_shaped (C := Tryz.checked) own started (by kernel_rfl) Tryz.func13
    (ChangeSpec.witness6 (enc := enc) (C := Tryz.checked) false ⟨#[], #[.slice none 0 0], []⟩ 8 (by kernel_rfl) (by kernel_rfl) (by kernel_rfl) (by kernel_rfl)) ?_
  intro W base args ds gs before hval0 hW _ _ hsh _
  have hval : ∀ (j : Nat) t v, Tryz.f13.params[j]? = some t → args[j]? = some v → Value.okWide Tryz.prog W .any base t v := hval0
  have hW' := hW
  obtain ⟨p, q, hA0, hV, rfl, hfz, hnd⟩ := hW
  have hA : DataW.TrodAll enc Tryz.prog W 0 (fun _ => true) true Tryz.f13.params.toList args.toList ds p := hA0
  rw [Tryz.params13] at hA hval
  obtain ⟨v0, d0, rfl, rfl, h0⟩ := trodAll_one hA
  obtain ⟨rfl, rfl⟩ := trodVars_none hV
  clear hA0 hval0
  simp only [List.append_nil] at hW'
  obtain ⟨l0, hl0⟩ := open_bytes Tryz.underlying22 Tryz.underlying5 (by kernel_rfl) (hval 0 22 v0 rfl rfl) h0
  refine ((FnStepShut_ok l0).calls_true rfl W [v0] (tabsW W hsh) (rel_one hl0)).mono fun e W' ⟨he, hb⟩ => ?_
  subst he
  have hlt : ∀ x ∈ p, x.block < W.heap.size := fun x hx => by simpa using hW'.lt x hx
  have hargs := Below.trod laidOut (by kernel_rfl) (of_decide_eq_true (by kernel_rfl)) h0 hb hlt
  exact ⟨_, rfl, ⟨_, _, _, [], _, [], hW', trodAll_mk1 (shut_bool Tryz.underlying4 _), trodAll_mk1 hargs, rfl, hb.frame _, fun h => by cases h⟩⟩

theorem closed : joinedFacts Tryz.prog 13 Tryz.f13 Rows.fnStepShutSpec Rows.fnStepShutRow = true := by
  have key : ∀ P : Program, P = Tryz.prog → P.mayEnter = true → P.liftsFinal = false → P.make = some .cut → joinedFacts P 13 Tryz.f13 Rows.fnStepShutSpec Rows.fnStepShutRow = true := by
    intro P hP h1 h2 h3
    unfold joinedFacts
    rw [h1, h2, h3]
    subst hP
    kernel_rfl
  exact key _ rfl enters finals makes

theorem proved : Rows.FnStepShutSaid :=
  OpenClaim.holds_of_wide 13 Tryz.f13 rfl rfl rfl rfl rfl rfl rfl ⟨rfl, rfl, rfl, rfl, rfl⟩ rfl rfl rfl rfl rfl (by kernel_rfl) Tryz.func13 closed
    (of_decide_eq_true (by kernel_rfl)) (by unfold Func.isWrapper; first | (rw [if_pos (by decide +kernel)]; kernel_rfl) | (rw [if_neg (by decide +kernel)]; exact ⟨rfl, rfl⟩))
    (fun os started H enc _ => lifted os started H enc)
end Go.Proofs.YtldoekmblpghmaaGreat.fnStepShut
