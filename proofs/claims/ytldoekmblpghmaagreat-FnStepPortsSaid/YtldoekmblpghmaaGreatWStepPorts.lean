/-
  The law 'FnStepPorts' is proved: it returns true whatever the input, and the input reads as it did. No condition.
-/
import Derived.Test.YtldoekmblpghmaaGreatQ29
import Derived.Test.YtldoekmblpghmaaGreatRows
namespace Go.Proofs.YtldoekmblpghmaaGreat
set_option linter.all false
section
set_option maxRecDepth 100000
def ac_laws_FnStepPorts : AF := ⟨[0, 2, 3, 4, 5, 6, 7, 8, 9, 10, 11, 14, 46, 86], [.t 2],
  .seq (.region [⟨(.g 2), .mv (.c (.bool false)), none⟩])
  (.seq (.seq (.region [⟨(.l 12), .mv (.g 0), none⟩, ⟨(.l 13), .len (.l 12), none⟩, ⟨(.g 14), .bin .gtr (.l 13) (.c (.int .i64 1048576)), none⟩])
  (.cond (.g 14) (.seq (.region [⟨(.g 2), .mv (.c (.bool true)), none⟩])
   (.ret))
  (.skip)))
  (.seq (.region [⟨(.l 16), .mv (.g 0), none⟩, ⟨(.l 17), .call fn_spec_DrawAssocStep [(.l 16)], none⟩, ⟨(.l 15), .mv (.l 17), none⟩, ⟨(.l 18), .extract (.l 15) 0, none⟩, ⟨(.l 19), .extract (.l 15) 1, none⟩, ⟨(.g 3), .alloc [(.int .i64 0), (.int .i64 0), (.int .i64 0), (.bool false), (.int .i64 0), (.int .i64 0), (.int .i64 0), .nils, (.int .i64 0), (.int .i64 0), (.int .i64 0), (.int .i64 0), .nils, (.int .i64 0)], none⟩, ⟨(.g 4), .alloc [(.int .i64 0), (.int .i64 0), (.int .i64 0), .nils], none⟩, ⟨.no, .store 14 (.g 3) (.l 18), none⟩, ⟨.no, .store 4 (.g 4) (.l 19), none⟩])
  (.seq (.region [⟨(.l 21), .load true 14 (.g 3), none⟩, ⟨(.l 22), .load true 4 (.g 4), none⟩, ⟨(.l 23), .call fn_impl_AssocStep [(.l 21), (.l 22)], none⟩, ⟨(.l 20), .mv (.l 23), none⟩, ⟨(.l 24), .extract (.l 20) 0, none⟩, ⟨(.l 25), .extract (.l 20) 1, none⟩, ⟨(.g 5), .alloc [(.int .i64 0), (.int .i64 0), (.int .i64 0), (.bool false), (.int .i64 0), (.int .i64 0), (.int .i64 0), .nils, (.int .i64 0), (.int .i64 0), (.int .i64 0), (.int .i64 0), .nils, (.int .i64 0)], none⟩, ⟨.no, .store 14 (.g 5) (.l 24), none⟩, ⟨(.g 6), .mv (.l 25), none⟩])
  (.seq (.region [⟨(.l 27), .load true 14 (.g 3), none⟩, ⟨(.l 28), .load true 4 (.g 4), none⟩, ⟨(.l 29), .call fn_spec_AssocStep [(.l 27), (.l 28)], none⟩, ⟨(.l 26), .mv (.l 29), none⟩, ⟨(.l 30), .extract (.l 26) 0, none⟩, ⟨(.l 31), .extract (.l 26) 1, none⟩, ⟨(.g 7), .alloc [(.int .i64 0), (.int .i64 0), (.int .i64 0), (.bool false), (.int .i64 0), (.int .i64 0), (.int .i64 0), .nils, (.int .i64 0), (.int .i64 0), (.int .i64 0), (.int .i64 0), .nils, (.int .i64 0)], none⟩, ⟨.no, .store 14 (.g 7) (.l 30), none⟩, ⟨(.g 8), .mv (.l 31), none⟩])
  (.seq (.seq (.region [⟨(.l 32), .mv (.g 6), none⟩, ⟨(.l 33), .mv (.g 8), none⟩, ⟨(.l 34), .call fn_laws_sameInts [(.l 32), (.l 33)], none⟩, ⟨(.l 35), .un .not (.l 34), none⟩, ⟨(.l 36), .mv (.l 35), none⟩, ⟨(.l 37), .load true 14 (.g 5), (some ((.l 36), false))⟩, ⟨(.l 38), .load true 14 (.g 7), (some ((.l 36), false))⟩, ⟨(.l 39), .call fn_laws_sameAssoc [(.l 37), (.l 38)], (some ((.l 36), false))⟩, ⟨(.l 40), .un .not (.l 39), (some ((.l 36), false))⟩, ⟨(.l 41), .pick (.l 36) (.c (.bool true)) (.l 40), none⟩, ⟨(.l 42), .mv (.l 41), none⟩, ⟨(.l 43), .faddr 0 (.g 7), (some ((.l 42), false))⟩, ⟨(.l 44), .load false 1 (.l 43), (some ((.l 42), false))⟩, ⟨(.l 45), .bin .eql (.l 44) (.c (.int .i64 0)), (some ((.l 42), false))⟩, ⟨(.g 46), .pick (.l 42) (.c (.bool true)) (.l 45), none⟩])
  (.cond (.g 46) (.seq (.region [⟨(.l 47), .mv (.g 6), none⟩, ⟨(.l 48), .mv (.g 8), none⟩, ⟨(.l 49), .call fn_laws_sameInts [(.l 47), (.l 48)], none⟩, ⟨(.l 50), .mv (.l 49), none⟩, ⟨(.l 51), .load true 14 (.g 5), (some ((.l 50), true))⟩, ⟨(.l 52), .load true 14 (.g 7), (some ((.l 50), true))⟩, ⟨(.l 53), .call fn_laws_sameAssoc [(.l 51), (.l 52)], (some ((.l 50), true))⟩, ⟨(.l 54), .pick (.l 50) (.l 53) (.c (.bool false)), none⟩, ⟨(.g 2), .mv (.l 54), none⟩])
   (.ret))
  (.skip)))
  (.seq (.region [⟨(.l 55), .load true 4 (.g 4), none⟩, ⟨(.g 9), .alloc [(.int .i64 0), (.int .i64 0), (.int .i64 0), .nils], none⟩, ⟨.no, .store 4 (.g 9) (.l 55), none⟩])
  (.seq (.region [⟨(.l 56), .faddr 0 (.g 4), none⟩, ⟨(.l 57), .load false 1 (.l 56), none⟩, ⟨(.l 58), .bin .rem (.l 57) (.c (.int .i64 65535)), none⟩, ⟨(.l 59), .bin .add (.l 58) (.c (.int .i64 1)), none⟩, ⟨(.l 60), .faddr 0 (.g 9), none⟩, ⟨.no, .store 1 (.l 60) (.l 59), none⟩])
  (.seq (.seq (.region [⟨(.l 61), .faddr 0 (.g 9), none⟩, ⟨(.l 62), .load false 1 (.l 61), none⟩, ⟨(.l 63), .faddr 1 (.g 3), none⟩, ⟨(.l 64), .load false 1 (.l 63), none⟩, ⟨(.l 65), .bin .eql (.l 62) (.l 64), none⟩, ⟨(.l 66), .mv (.l 65), none⟩, ⟨(.l 67), .faddr 1 (.g 4), (some ((.l 66), true))⟩, ⟨(.l 68), .load false 1 (.l 67), (some ((.l 66), true))⟩, ⟨(.l 69), .faddr 0 (.g 3), (some ((.l 66), true))⟩, ⟨(.l 70), .load false 1 (.l 69), (some ((.l 66), true))⟩, ⟨(.l 71), .bin .eql (.l 68) (.l 70), (some ((.l 66), true))⟩, ⟨(.l 72), .pick (.l 66) (.l 71) (.c (.bool false)), none⟩, ⟨(.l 73), .mv (.l 72), none⟩, ⟨(.l 74), .faddr 0 (.g 9), (some ((.l 73), false))⟩, ⟨(.l 75), .load false 1 (.l 74), (some ((.l 73), false))⟩, ⟨(.l 76), .faddr 0 (.g 3), (some ((.l 73), false))⟩, ⟨(.l 77), .load false 1 (.l 76), (some ((.l 73), false))⟩, ⟨(.l 78), .bin .eql (.l 75) (.l 77), (some ((.l 73), false))⟩, ⟨(.l 79), .mv (.l 78), (some ((.l 73), false))⟩, ⟨(.l 80), .faddr 1 (.g 4), (some ((.l 79), true))⟩, ⟨(.l 81), .load false 1 (.l 80), (some ((.l 79), true))⟩, ⟨(.l 82), .faddr 1 (.g 3), (some ((.l 79), true))⟩, ⟨(.l 83), .load false 1 (.l 82), (some ((.l 79), true))⟩, ⟨(.l 84), .bin .eql (.l 81) (.l 83), (some ((.l 79), true))⟩, ⟨(.l 85), .pick (.l 79) (.l 84) (.c (.bool false)), (some ((.l 73), false))⟩, ⟨(.g 86), .pick (.l 73) (.c (.bool true)) (.l 85), none⟩])
  (.cond (.g 86) (.seq (.region [⟨(.g 2), .mv (.c (.bool true)), none⟩])
   (.ret))
  (.skip)))
  (.seq (.region [⟨(.l 88), .load true 14 (.g 3), none⟩, ⟨(.l 89), .load true 4 (.g 9), none⟩, ⟨(.l 90), .call fn_impl_AssocStep [(.l 88), (.l 89)], none⟩, ⟨(.l 87), .mv (.l 90), none⟩, ⟨(.l 91), .extract (.l 87) 0, none⟩, ⟨(.l 92), .extract (.l 87) 1, none⟩, ⟨(.g 10), .alloc [(.int .i64 0), (.int .i64 0), (.int .i64 0), (.bool false), (.int .i64 0), (.int .i64 0), (.int .i64 0), .nils, (.int .i64 0), (.int .i64 0), (.int .i64 0), (.int .i64 0), .nils, (.int .i64 0)], none⟩, ⟨.no, .store 14 (.g 10) (.l 91), none⟩, ⟨(.g 11), .mv (.l 92), none⟩])
  (.seq (.region [⟨(.l 93), .load true 14 (.g 10), none⟩, ⟨(.l 94), .build [(.int .i64 0), (.int .i64 0), (.int .i64 0), (.bool false), (.int .i64 0), (.int .i64 0), (.int .i64 0), .nils, (.int .i64 0), (.int .i64 0), (.int .i64 0), (.int .i64 0), .nils, (.int .i64 0)] [], none⟩, ⟨(.l 95), .call fn_laws_sameAssoc [(.l 93), (.l 94)], none⟩, ⟨(.l 96), .mv (.l 95), none⟩, ⟨(.l 97), .mv (.g 11), (some ((.l 96), true))⟩, ⟨(.l 98), .len (.l 97), (some ((.l 96), true))⟩, ⟨(.l 99), .bin .eql (.l 98) (.c (.int .i64 0)), (some ((.l 96), true))⟩, ⟨(.l 100), .pick (.l 96) (.l 99) (.c (.bool false)), none⟩, ⟨(.g 2), .mv (.l 100), none⟩])
  (.ret)))))))))))⟩
theorem ln_laws_FnStepPorts : Linked Tryz.prog fn_laws_FnStepPorts ac_laws_FnStepPorts := ⟨Tryz.f5, _, Tryz.func5, rfl, by kernel_rfl, by kernel_rfl, by kernel_rfl, by kernel_rfl⟩
end
end Go.Proofs.YtldoekmblpghmaaGreat

namespace Go.Proofs.YtldoekmblpghmaaGreat
set_option linter.all false
section
set_option maxRecDepth 200000
set_option maxHeartbeats 8000000
attribute [-simp] List.getD_eq_getElem?_getD

theorem FnStepPorts_ok (code : List UInt8) : Fn Tryz.prog fn_laws_FnStepPorts [bsl code] [] (.bool true) [] := by
  obtain ⟨x, p, hx, hp, f1⟩ := DrawAssocStep_ok code
  have g1 := impl_AssocStep_ok x p hx.bd (by omega)
  have g2 := spec_AssocStep_ok x p hx.bd (by omega)
  have g3 := sameInts_self (stepS x p).2 (by have := stepS_len x p; omega)
  have g4 := sameAssoc_self (stepS x p).1 (stepS_bd p)
  have hm := srcN (x := x) (p := p)
  have hbd := stepS_bd (x := x) p
  have hln := stepS_len x p
  have k := step_ports (x := x) (p := p) ((p.src).tmod 65535 + 1)
  have g5 := impl_AssocStep_ok x { p with src := (p.src).tmod 65535 + 1 } hx.bd (by simp only; omega)
  have g6 := sameAssoc_self zAssoc (newA_bd 0 0)
  generalize stepS x p = r at *
  obtain ⟨y, rl⟩ := r
  simp only at hm hbd hln
  simp only [assoc_v, packet_v, isl] at f1 g1 g2 g3 g4 g6
  refine Fn.of_go ln_laws_FnStepPorts rfl ?_
  simp [ac_laws_FnStepPorts, bsl]
  refine goTest_dec (fun h0 => ?_) (fun h0 => ?_)
  · simp
    exact Ends.mk [] [] (by simp)
  simp
  refine goCall_eq f1 (by simp [bsl]) ?_
  simp
  refine goCall_eq g1 (by simp) ?_
  simp
  refine goCall_eq g2 (by simp) ?_
  simp
  refine goCall_eq g3 (by simp) ?_
  simp
  refine goCall_eq g4 (by simp) ?_
  simp
  cases h1 : decide (y.src = 0)
  rotate_left
  · simp
    refine goCall_eq g3 (by simp) ?_
    simp
    refine goCall_eq g4 (by simp) ?_
    simp
    exact Ends.mk [] [] (by simp)
  have hm := hm h1
  simp
  have hps := (packet_ok.1 (mine_iff.1 hm).2.1).2.1
  have hs : 0 ≤ (p.src).tmod 65535 ∧ (p.src).tmod 65535 < 65535 := by
    rw [Int.tmod_eq_emod_of_nonneg (by omega)]; omega
  refine ⟨by omega, ?_⟩
  generalize (p.src).tmod 65535 + 1 = s at *
  cases d1 : decide (s = x.dst) <;> cases d2 : decide (p.dst = x.src) <;> cases d3 : decide (s = x.src) <;> cases d4 : decide (p.dst = x.dst) <;> simp [d1, d2, d3, d4]
  all_goals first
    | (exact Ends.mk [] [] (by simp) ; done)
    | (rw [k (by simp at d1 d2 d3 d4; omega)] at g5
       simp only [assoc_v, packet_v, isl, zAssoc, zSide, List.map_nil] at g5 g6
       refine goCall_gen [] [] [] [] none g5 (by simp) ?_
       simp
       refine goCall_gen [] [] [] [] none g6 (by simp) ?_
       simp
       exact Ends.mk [] [] (by simp))
end
end Go.Proofs.YtldoekmblpghmaaGreat

namespace Go.Proofs.YtldoekmblpghmaaGreat.fnStepPorts
set_option linter.all false
open Go.ChangeShapes Go.WideShapes Go.ChangeAt Go.RowKit

theorem own : ownKnob Tryz.prog.godebug = none := by kernel_rfl
theorem laidOut : laidOutB Tryz.prog = true := by kernel_rfl

set_option maxRecDepth 100000 in
theorem lifted (os : Os) (started : os.Started) (H : Type) (enc : TypeId × Value → H) :
    ReturnsInHanded {} Tryz.checked os 5 .any (Rows.fnStepPortsSpec.pre6 enc Tryz.prog Tryz.f5 Rows.fnStepPortsRow.domain false) (Rows.fnStepPortsSpec.post enc Tryz.prog Tryz.f5 false true false false) := by
  refine returnsInHanded_of_change_shaped (C := Tryz.checked) own started (by kernel_rfl) Tryz.func5
    (ChangeSpec.witness6 (enc := enc) (C := Tryz.checked) false ⟨#[], #[.slice none 0 0], []⟩ 8 (by kernel_rfl) (by kernel_rfl) (by kernel_rfl) (by kernel_rfl)) ?_
  intro W base args ds gs before hval0 hW _ _ hsh _
  have hval : ∀ (j : Nat) t v, Tryz.f5.params[j]? = some t → args[j]? = some v → Value.okWide Tryz.prog W .any base t v := hval0
  have hW' := hW
  obtain ⟨p, q, hA0, hV, rfl, hfz, hnd⟩ := hW
  have hA : DataW.TrodAll enc Tryz.prog W 0 (fun _ => true) true Tryz.f5.params.toList args.toList ds p := hA0
  rw [Tryz.params5] at hA hval
  obtain ⟨v0, d0, rfl, rfl, h0⟩ := trodAll_one hA
  obtain ⟨rfl, rfl⟩ := trodVars_none hV
  clear hA0 hval0
  simp only [List.append_nil] at hW'
  obtain ⟨l0, hl0⟩ := open_bytes Tryz.underlying22 Tryz.underlying5 (by kernel_rfl) (hval 0 22 v0 rfl rfl) h0
  refine ((FnStepPorts_ok l0).calls_true rfl W [v0] (tabsW W hsh) (rel_one hl0)).mono fun e W' ⟨he, hb⟩ => ?_
  subst he
  have hlt : ∀ x ∈ p, x.block < W.heap.size := fun x hx => by simpa using hW'.lt x hx
  have hargs := Below.trod laidOut (by kernel_rfl) (of_decide_eq_true (by kernel_rfl)) h0 hb hlt
  exact ⟨_, rfl, ⟨_, _, _, [], _, [], hW', trodAll_mk1 (shut_bool Tryz.underlying4 _), trodAll_mk1 hargs, rfl, hb.frame _, fun h => by cases h⟩⟩

theorem closed : joinedFacts Tryz.prog 5 Tryz.f5 Rows.fnStepPortsSpec Rows.fnStepPortsRow = true := by
  have key : ∀ P : Program, P = Tryz.prog → P.mayEnter = true → P.liftsFinal = false → P.make = some .cut → joinedFacts P 5 Tryz.f5 Rows.fnStepPortsSpec Rows.fnStepPortsRow = true := by
    intro P hP h1 h2 h3
    unfold joinedFacts
    rw [h1, h2, h3]
    subst hP
    kernel_rfl
  exact key _ rfl enters finals makes

theorem proved : Rows.FnStepPortsSaid :=
  OpenClaim.holds_of_wide 5 Tryz.f5 rfl rfl rfl rfl rfl rfl rfl ⟨rfl, rfl, rfl, rfl, rfl⟩ rfl rfl rfl rfl rfl (by kernel_rfl) Tryz.func5 closed
    (of_decide_eq_true (by kernel_rfl)) (by unfold Func.isWrapper; first | (rw [if_pos (by decide +kernel)]; kernel_rfl) | (rw [if_neg (by decide +kernel)]; exact ⟨rfl, rfl⟩))
    (fun os started H enc _ => lifted os started H enc)
end Go.Proofs.YtldoekmblpghmaaGreat.fnStepPorts
